/- The walk of the statement ConstrainKnown. -/
import Derived.Test.YthecmbmidoagaaaDoorCC
namespace Go.Proofs.YthecmbmidoagaaaDoor
open Go.RowKit Go.Maps
open Pl

def sAdj : ByteArray := ⟨#[65, 100, 106]⟩
def sPl : ByteArray := ⟨#[80, 108]⟩
def tNot : Tst := ⟨-1, false, true, false, [sDet], []⟩
def tCar : Tst := ⟨0, false, false, true, [sN], []⟩
def tN0 : Tst := ⟨0, false, false, false, [sN], []⟩
def tD0 : Tst := ⟨0, false, false, false, [sDet], []⟩
def rV : Rul := ⟨1, [sV], [], false⟩
def rAdj : Rul := ⟨1, [sAdj], [], false⟩
def rDet : Rul := ⟨2, [sDet], [], false⟩
def rUns : Rul := ⟨2, [sDet], [], true⟩
def cVP : Coh := (cSaw.1, [[sV, sPast]])
def cNo : Coh := (cThe.1, [])
theorem sl_nil_any {α : Type} {T : Ty α} {w w' : World} {D D' : Nat → Prop} {v : Value} (h : Sl T w D v []) : Sl T w' D' v [] :=
  let ⟨A, c, h1, h2, h3, _⟩ := h
  ⟨A, c, h1, h2, h3, .inl rfl⟩
theorem Y0 : stp nameB rV sawL 1 = (cVP, true, 0) := by decide +kernel
theorem Y1 : stp nameB rAdj sawL 1 = (cSaw, false, 0) := by decide +kernel
theorem Y2 : stp nameB rDet sawL 0 = (cThe, false, 0) := by decide +kernel
theorem Y3 : stp nameB rUns sawL 0 = (cNo, true, 0) := by decide +kernel
theorem Y4 : stp nameB rUns sawL 3 = ((⟨#[]⟩, []), false, 1) := by decide +kernel
theorem Z0 : hasB [sN, sSg] [] = true := by decide +kernel
theorem Z1 : hasB [sN, sSg] [sN, sPl] = false := by decide +kernel
theorem Z2 : holdsB nameB tNot sawL 1 = false := by decide +kernel
theorem Z3 : holdsB nameB tCar sawL 1 = false := by decide +kernel
theorem Z4 : holdsB nameB tN0 sawL 1 = true := by decide +kernel
theorem Z5 : holdsB nameB tDet sawL 0 = false := by decide +kernel
theorem Z6 : holdsB nameB tNot sawL 0 = true := by decide +kernel
theorem Z7 : holdsB nameB tD0 sawL (-1) = false := by decide +kernel
theorem Z8 : eqC cVP cVP = true := by decide +kernel
theorem Z9 : eqC cSaw cSaw = true := by decide +kernel
theorem ZA : eqC cThe cThe = true := by decide +kernel
theorem ZB : eqC cNo cNo = true := by decide +kernel

set_option maxRecDepth 100000 in
set_option maxHeartbeats 64000000 in
theorem known_walk {w : World} (hT : Tb w) : Calls Tryd.prog 11 #[] w fun e w' => e = .returned (.bool true) ∧ Bw w w' := by
  go_enter Tryd.func11, Tryd.ntmps11
  go_wp2_with fail
  refine (test_any (a := -1) (tag := sDet) (by decide)).mono ?_
  rintro e w1 ⟨u1, rfl, hb1, hu1⟩
  obtain ⟨A1, n1, c1, rfl, _, _, _⟩ := hu1.form'
  go_wp2_with fail
  refine (test_any (a := 0) (tag := sN) (by decide)).mono ?_
  rintro e w2 ⟨u2, rfl, hb2, hu2⟩
  obtain ⟨A2, n2, c2, rfl, _, _, _⟩ := hu2.form'
  have hbX : Bw w2 ((w2.alloc (.cells #[.int .i64 (-1), .bool false, .bool true, .bool false, .slice A1 n1 c1, .slice none 0 0] 28)).alloc (.cells #[.int .i64 0, .bool false, .bool false, .bool true, .slice A2 n2 c2, .slice none 0 0] 28)) := bw_al (bw_refl_al w2 _) _
  have rn0 : ((w2.alloc (.cells #[.int .i64 (-1), .bool false, .bool true, .bool false, .slice A1 n1 c1, .slice none 0 0] 28)).alloc (.cells #[.int .i64 0, .bool false, .bool false, .bool true, .slice A2 n2 c2, .slice none 0 0] 28)).heap[w2.heap.size]? = some (.cells #[.int .i64 (-1), .bool false, .bool true, .bool false, .slice A1 n1 c1, .slice none 0 0] 28) := at_old (at_new rfl)
  have rc0 : ((w2.alloc (.cells #[.int .i64 (-1), .bool false, .bool true, .bool false, .slice A1 n1 c1, .slice none 0 0] 28)).alloc (.cells #[.int .i64 0, .bool false, .bool false, .bool true, .slice A2 n2 c2, .slice none 0 0] 28)).heap[w2.heap.size + 1]? = some (.cells #[.int .i64 0, .bool false, .bool false, .bool true, .slice A2 n2 c2, .slice none 0 0] 28) := at_new (by simp)
  go_wp2_with fail
  refine saw_any.mono ?_
  rintro e w3 ⟨g3, A3, n3, c3, b3, o3, cc3, B3, m3, d3, P3, p3, q3, rfl, hb3, hg3, hs3⟩
  have hc30 := cell_of_row w3 g3 3 _ _ _ hs3.row
  have hc31 : w3.cell? ⟨g3, 3, none⟩ = some (.slice (some ⟨b3, o3, none⟩) 2 cc3) := by rw [hc30]; rfl
  have hc32 := hs3.c1
  clear hc30
  have k3 : Bw w w3 := ((hb1.then hb2).then hbX).then hb3
  have rn1 := row_bw hb3 rn0
  have rc1 := row_bw hb3 rc0
  have t1 := hu1.after ((hb2.then hbX).then hb3)
  have t2 := hu2.after (hbX.then hb3)
  have tn := hs3.sx
  clear hb1 hb2 hbX hb3 rn0 rc0 hs3 hu1 hu2
  go_wp2_with fail
  refine (rule_mk_any (a := 2) (tag := sDet) (ts := []) (by decide) rdNil).mono ?_
  rintro e w4 ⟨u4, rfl, hb4, hu4⟩
  obtain ⟨A4, n4, c4, rfl, _, _, _⟩ := hu4.form'
  have rb1 : w4.heap[w3.heap.size]? = some (.cells #[.slice P3 p3 q3] 24) := row_bw hb4 (at_new rfl)
  have k4 : Bw w3 w4 := (bw_refl_al w3 _).then hb4
  clear hb4
  have kx : Bw w4 (w4.alloc (.cells #[.int .i64 2, .slice A4 n4 c4, .slice none 0 0, .bool true] 34)) := bw_refl_al _ _
  have ru0 : (w4.alloc (.cells #[.int .i64 2, .slice A4 n4 c4, .slice none 0 0, .bool true] 34)).heap[w4.heap.size]? = some (.cells #[.int .i64 2, .slice A4 n4 c4, .slice none 0 0, .bool true] 34) := at_new rfl
  go_wp2_with fail
  refine (rule_mk_any (a := 1) (tag := sV) (ts := []) (by decide) rdNil).mono ?_
  rintro e w5 ⟨u5, rfl, hb5, hu5⟩
  obtain ⟨A5, n5, c5, rfl, _, _, _⟩ := hu5.form'
  have ru1 := row_bw hb5 ru0
  have k5 : Bw w4 w5 := kx.then hb5
  clear kx hb5 ru0
  go_wp2_with fail
  refine saw_any.mono ?_
  rintro e w6 ⟨g6, _, _, _, _, _, _, _, _, _, _, _, _, rfl, k6, _, hs6⟩
  have hl6 := hs6.rd
  clear hs6
  go_wp2_with fail
  refine (step_any (r := rV) (l := sawL) (i := 1) (hT.after (((k3.then k4).then k5).then k6)) (hu5.after k6) rdNil hl6).mono ?_
  intro e w7 hr
  rw [Y0] at hr
  obtain ⟨u7, rfl, k7, hu7⟩ : ∃ u, e = .returned (.tuple #[.agg #[.string cVP.1, u], .bool true, .int .i64 0]) ∧ Bw w6 w7 ∧ Sl tRdg w7 (Hi w6.heap.size) u cVP.2 := hr
  obtain ⟨U7, r7, s7, rfl, _, _, _⟩ := hu7.form'
  go_wp2_with fail
  refine (rule_mk_any (a := 1) (tag := sAdj) (ts := []) (by decide) rdNil).mono ?_
  rintro e w8 ⟨u8, rfl, hb8, hu8⟩
  obtain ⟨A8, n8, c8, rfl, _, _, _⟩ := hu8.form'
  have rx7 := row_bw hb8 (at_new (w := w7) (o := .cells #[.string cVP.1, .slice U7 r7 s7] 37) rfl)
  have k8 : Bw w7 w8 := (bw_refl_al w7 _).then hb8
  clear hb8
  go_wp2_with fail
  refine saw_any.mono ?_
  rintro e w9 ⟨g9, _, _, _, _, _, _, _, _, _, _, _, _, rfl, k9, _, hs9⟩
  have hl9 := hs9.rd
  clear hs9
  go_wp2_with fail
  refine (step_any (r := rAdj) (l := sawL) (i := 1) (hT.after ((((((k3.then k4).then k5).then k6).then k7).then k8).then k9)) (hu8.after k9) rdNil hl9).mono ?_
  intro e w10 hr
  rw [Y1] at hr
  obtain ⟨u10, rfl, k10, hu10⟩ : ∃ u, e = .returned (.tuple #[.agg #[.string cSaw.1, u], .bool false, .int .i64 0]) ∧ Bw w9 w10 ∧ Sl tRdg w10 (Hi w9.heap.size) u cSaw.2 := hr
  obtain ⟨U10, r10, s10, rfl, _, _, _⟩ := hu10.form'
  go_wp2_with fail
  refine (rule_mk_any (a := 2) (tag := sDet) (ts := []) (by decide) rdNil).mono ?_
  rintro e w11 ⟨u11, rfl, hb11, hu11⟩
  obtain ⟨A11, n11, c11, rfl, _, _, _⟩ := hu11.form'
  have rx10 := row_bw hb11 (at_new (w := w10) (o := .cells #[.string cSaw.1, .slice U10 r10 s10] 37) rfl)
  have k11 : Bw w10 w11 := (bw_refl_al w10 _).then hb11
  clear hb11
  go_wp2_with fail
  refine saw_any.mono ?_
  rintro e w12 ⟨g12, _, _, _, _, _, _, _, _, _, _, _, _, rfl, k12, _, hs12⟩
  have hl12 := hs12.rd
  clear hs12
  go_wp2_with fail
  refine (step_any (r := rDet) (l := sawL) (i := 0) (hT.after (((((((((k3.then k4).then k5).then k6).then k7).then k8).then k9).then k10).then k11).then k12)) (hu11.after k12) rdNil hl12).mono ?_
  intro e w13 hr
  rw [Y2] at hr
  obtain ⟨u13, rfl, k13, hu13⟩ : ∃ u, e = .returned (.tuple #[.agg #[.string cThe.1, u], .bool false, .int .i64 0]) ∧ Bw w12 w13 ∧ Sl tRdg w13 (Hi w12.heap.size) u cThe.2 := hr
  obtain ⟨U13, r13, s13, rfl, _, _, _⟩ := hu13.form'
  go_wp2_with fail
  as_aux_lemma =>
    have hTw' := hT.after ((((((((((k3.then k4).then k5).then k6).then k7).then k8).then k9).then k10).then k11).then k12).then k13)
    obtain ⟨W9, hW9⟩ : ∃ W9, W9 = w13.alloc (.cells #[.string cThe.1, .slice U13 r13 s13] 37) := ⟨_, rfl⟩
    have k14 : Bw w13 W9 := by rw [hW9]; exact bw_refl_al _ _
    have rx13 : W9.heap[w13.heap.size]? = some (.cells #[.string cThe.1, .slice U13 r13 s13] 37) := by rw [hW9]; exact at_new rfl
    rw [← hW9]
    clear hW9
    have hU4 : Rd tStr W9 (.slice A4 n4 c4) [sDet] := hu4.after (Bw.then ((((((((k5.then k6).then k7).then k8).then k9).then k10).then k11).then k12).then k13) k14)
    have rU : W9.heap[w4.heap.size]? = some (.cells #[.int .i64 2, .slice A4 n4 c4, .slice none 0 0, .bool true] 34) := row_bw (Bw.then (((((((k6.then k7).then k8).then k9).then k10).then k11).then k12).then k13) k14) ru1
    have hTw := hTw'.after k14
    have KU : ∀ w', Bw W9 w' → (w'.cell? ⟨w4.heap.size, 0, none⟩ = some (.int .i64 2) ∧ w'.cell? ⟨w4.heap.size, 1, none⟩ = some (.slice A4 n4 c4) ∧ w'.cell? ⟨w4.heap.size, 2, none⟩ = some (.slice none 0 0) ∧ w'.cell? ⟨w4.heap.size, 3, none⟩ = some (.bool true)) := fun w' kk =>
      ⟨row4_0 (row_bw kk rU), row4_1 (row_bw kk rU), row4_2 (row_bw kk rU), row4_3 (row_bw kk rU)⟩
    refine Code.wp_mono (Q := fun e a W => match e with | .normal => (fun a W => ∃ gb gs U n c, a = { tmps := #[.bool false, .pointer (some ⟨w2.heap.size, 0, none⟩), .pointer (some ⟨w2.heap.size + 1, 0, none⟩), .pointer (some ⟨w3.heap.size, 0, none⟩), .pointer (some ⟨w4.heap.size, 0, none⟩), .pointer (some ⟨w7.heap.size, 0, none⟩), .bool true, .int .i64 0, .pointer (some ⟨w10.heap.size, 0, none⟩), .bool false, .int .i64 0, .pointer (some ⟨w13.heap.size, 0, none⟩), .bool false, .int .i64 0, .pointer (some ⟨gb, 0, none⟩), .bool true, .int .i64 0, undef, undef, undef, .agg #[.int .i64 (-1), .bool false, .bool false, .bool false, .slice A1 n1 c1, .slice none 0 0], .agg #[.int .i64 0, .bool false, .bool false, .bool false, .slice A2 n2 c2, .slice none 0 0], .pointer (some ⟨w2.heap.size, 2, none⟩), .pointer (some ⟨w2.heap.size + 1, 3, none⟩), .slice (some ⟨g3, 0, none⟩) 3 3, .pointer (some ⟨g3, 2, none⟩), .pointer (some ⟨g3, 3, none⟩), .slice (some ⟨b3, o3, none⟩) 2 cc3, .pointer (some ⟨b3, o3, none⟩), .agg #[.slice P3 p3 q3], .agg #[.int .i64 2, .slice A4 n4 c4, .slice none 0 0, .bool false], .pointer (some ⟨w4.heap.size, 3, none⟩), .tuple #[.agg #[.string cVP.fst, .slice U7 r7 s7], .bool true, .int .i64 0], .agg #[.int .i64 1, .slice A5 n5 c5, .slice none 0 0, .bool false], .slice (some ⟨g6, 0, none⟩) 3 3, .tuple #[.agg #[.string cVP.fst, .slice U7 r7 s7], .bool true, .int .i64 0], .agg #[.string cVP.fst, .slice U7 r7 s7], .bool true, .int .i64 0, .tuple #[.agg #[.string cSaw.fst, .slice U10 r10 s10], .bool false, .int .i64 0], .agg #[.int .i64 1, .slice A8 n8 c8, .slice none 0 0, .bool false], .slice (some ⟨g9, 0, none⟩) 3 3, .tuple #[.agg #[.string cSaw.fst, .slice U10 r10 s10], .bool false, .int .i64 0], .agg #[.string cSaw.fst, .slice U10 r10 s10], .bool false, .int .i64 0, .tuple #[.agg #[.string cThe.fst, .slice U13 r13 s13], .bool false, .int .i64 0], .agg #[.int .i64 2, .slice A11 n11 c11, .slice none 0 0, .bool false], .slice (some ⟨g12, 0, none⟩) 3 3, .tuple #[.agg #[.string cThe.fst, .slice U13 r13 s13], .bool false, .int .i64 0], .agg #[.string cThe.fst, .slice U13 r13 s13], .bool false, .int .i64 0, .tuple #[.agg #[.string cNo.1, .slice U n c], .bool true, .int .i64 0], .agg #[.int .i64 2, .slice A4 n4 c4, .slice none 0 0, .bool true], .slice (some ⟨gs, 0, none⟩) 3 3, .tuple #[.agg #[.string cNo.1, .slice U n c], .bool true, .int .i64 0], .agg #[.string cNo.1, .slice U n c], .bool true, .int .i64 0, undef, undef, undef, undef, undef, undef, undef, undef, undef, undef, undef, undef, undef, undef, undef, undef, undef, undef, undef, undef, undef, undef, undef, undef, undef, undef, undef, undef, undef, undef, undef, undef, undef, undef, undef, undef, undef, undef, undef, undef, undef, undef, undef, undef, undef, undef, undef, undef, undef, undef, undef, undef, undef, undef, undef, undef, undef, undef, undef, undef, undef, undef, undef, undef, undef, undef, undef, undef, undef, undef, undef, undef, undef, undef, undef, undef, undef, undef, undef, undef, undef, undef, undef, undef, undef, undef, undef, undef, undef, undef, undef, undef, undef, undef, undef, undef, undef, undef, undef, undef, undef, undef, undef, undef, undef, undef, undef, undef, undef, undef, undef, undef], defers := [] } ∧ Bw W9 W ∧ W.heap[gb]? = some (.cells #[.string cNo.1, .slice U n c] 37 (0, 0)) ∧ Rd tRdg W (.slice U n c) cNo.2) a W | _ => False) (fun e a w14 h => ?_) ?_
    rotate_left 1
    · refine wp_region_held_drew (S := fun w' => w'.cell? ⟨w4.heap.size, 0, none⟩ = some (.int .i64 2) ∧ w'.cell? ⟨w4.heap.size, 1, none⟩ = some (.slice A4 n4 c4) ∧ w'.cell? ⟨w4.heap.size, 2, none⟩ = some (.slice none 0 0) ∧ w'.cell? ⟨w4.heap.size, 3, none⟩ = some (.bool true)) (by kernel_rfl) ?_ (fun hHeld => ?_)
      · exact KU _ (by (repeat' first | with_reducible exact Below.refl _ _ | with_reducible assumption | with_reducible refine Bw.drew ?_ | with_reducible refine Bw.drewN ?_ _ | with_reducible refine bw_al ?_ _ | with_reducible refine Bw.then ?_ (by with_reducible assumption)))
      refine wpAnyH_take (i := 0) (oi := { dst := some 54, op := Go.Op.load 34 (Go.Operand.tmp 4), type := 34, pos := "law.go:210", after := #[], guard := none }) (v := ?v1) rfl (by kernel_rfl) (by kernel_rfl) (by kernel_rfl) (fun _ _ _ h => h) (Or.inl ⟨by rfl, ?hy1⟩) (by assumption) ?_
      case hy1 => (intro w hSw; (try dsimp only at hSw); go_simp; try with_reducible rfl)
      try simp only [Act.put, List.setIfInBounds_toArray, List.set_cons_zero, List.set_cons_succ]
      refine wpAnyH_ready (rs := [1, 7]) (by kernel_rfl) (by simp) ?_
      refine (AllReadyH.cons (i := 1) (o := { dst := some 55, op := Go.Op.call { callee := Go.Callee.value (Go.Operand.func 30), args := #[], argTypes := #[] }, type := 29, pos := "law.go:210", after := #[], guard := none }) rfl (fun K' hK' => ?_) (AllReadyH.cons (i := 7) (o := { dst := some 14, op := Go.Op.alloc 37, type := 0, pos := "law.go:210", after := #[], guard := none }) rfl (fun K' hK' => ?_) AllReadyH.nil))
      · go_simp
        refine saw_any.mono ?_
        rintro e wA ⟨gA, _, _, _, _, _, _, _, _, _, _, _, _, rfl, hbA, _, hsA⟩
        try dsimp only
        refine hK'.out _ _ ?_ (fun hHeld => ?_)
        · exact KU _ (by (repeat' first | with_reducible exact Below.refl _ _ | with_reducible assumption | with_reducible refine Bw.drew ?_ | with_reducible refine Bw.drewN ?_ _ | with_reducible refine bw_al ?_ _ | with_reducible refine Bw.then ?_ (by with_reducible assumption)))
        clear hK' K'
        try simp only [Act.put, List.setIfInBounds_toArray, List.set_cons_zero, List.set_cons_succ]
        refine wpAnyH_ready (rs := [2, 7]) (by kernel_rfl) (by simp) ?_
        refine (AllReadyH.cons (i := 2) (o := { dst := some 56, op := Go.Op.call { callee := Go.Callee.value (Go.Operand.func 18), args := #[Go.Operand.tmp 54, Go.Operand.tmp 55, Go.Operand.const (Go.Value.int Go.IntKind.i64 0)], argTypes := #[34, 29, 3] }, type := 39, pos := "law.go:210", after := #[{ on := 0, ground := Go.Ground.data }, { on := 1, ground := Go.Ground.data }, { on := 1, ground := Go.Ground.chain }], guard := none }) rfl (fun K' hK' => ?_) (AllReadyH.cons (i := 7) (o := { dst := some 14, op := Go.Op.alloc 37, type := 0, pos := "law.go:210", after := #[], guard := none }) rfl (fun K' hK' => ?_) AllReadyH.nil))
        · go_simp
          refine (step_any (r := rUns) (l := sawL) (i := 0) (hTw.after (by (repeat' first | with_reducible exact Below.refl _ _ | with_reducible assumption | with_reducible refine Bw.drew ?_ | with_reducible refine Bw.drewN ?_ _ | with_reducible refine bw_al ?_ _ | with_reducible refine Bw.then ?_ (by with_reducible assumption)))) (hU4.after (by (repeat' first | with_reducible exact Below.refl _ _ | with_reducible assumption | with_reducible refine Bw.drew ?_ | with_reducible refine Bw.drewN ?_ _ | with_reducible refine bw_al ?_ _ | with_reducible refine Bw.then ?_ (by with_reducible assumption)))) rdNil (hsA.after (by (repeat' first | with_reducible exact Below.refl _ _ | with_reducible assumption | with_reducible refine Bw.drew ?_ | with_reducible refine Bw.drewN ?_ _ | with_reducible refine bw_al ?_ _ | with_reducible refine Bw.then ?_ (by with_reducible assumption)))).rd).mono ?_
          intro e wB hr
          rw [Y3] at hr
          obtain ⟨uB, rfl, hbB, huB⟩ : ∃ u, e = .returned (.tuple #[.agg #[.string cNo.1, u], .bool true, .int .i64 0]) ∧ Bw _ wB ∧ Sl tRdg wB (Hi _) u cNo.2 := hr
          obtain ⟨UB, rB, sB, rfl, _, _, _⟩ := huB.form'
          try dsimp only
          refine hK'.out _ _ ?_ (fun hHeld => ?_)
          · exact KU _ (by (repeat' first | with_reducible exact Below.refl _ _ | with_reducible assumption | with_reducible refine Bw.drew ?_ | with_reducible refine Bw.drewN ?_ _ | with_reducible refine bw_al ?_ _ | with_reducible refine Bw.then ?_ (by with_reducible assumption)))
          clear hK' K'
          try simp only [Act.put, List.setIfInBounds_toArray, List.set_cons_zero, List.set_cons_succ]
          refine wpAnyH_take (i := 3) (oi := { dst := some 53, op := Go.Op.move (Go.Operand.tmp 56), type := 39, pos := "law.go:210", after := #[{ on := 2, ground := Go.Ground.data }], guard := none }) (v := ?v2) rfl (by kernel_rfl) (by kernel_rfl) (by kernel_rfl) (fun _ _ _ h => h) (Or.inl ⟨by rfl, ?hy2⟩) (by assumption) ?_
          case hy2 => (intro w hSw; (try dsimp only at hSw); go_simp; try with_reducible rfl)
          try simp only [Act.put, List.setIfInBounds_toArray, List.set_cons_zero, List.set_cons_succ]
          refine wpAnyH_take (i := 4) (oi := { dst := some 57, op := Go.Op.extract (Go.Operand.tmp 53) 0, type := 37, pos := "law.go:210", after := #[{ on := 3, ground := Go.Ground.data }], guard := none }) (v := ?v3) rfl (by kernel_rfl) (by kernel_rfl) (by kernel_rfl) (fun _ _ _ h => h) (Or.inl ⟨by rfl, ?hy3⟩) (by assumption) ?_
          case hy3 => (intro w hSw; (try dsimp only at hSw); go_simp; try with_reducible rfl)
          try simp only [Act.put, List.setIfInBounds_toArray, List.set_cons_zero, List.set_cons_succ]
          refine wpAnyH_take (i := 5) (oi := { dst := some 58, op := Go.Op.extract (Go.Operand.tmp 53) 1, type := 4, pos := "law.go:210", after := #[{ on := 3, ground := Go.Ground.data }, { on := 8, ground := Go.Ground.gcOnly Go.Departure.lateStores }], guard := none }) (v := ?v4) rfl (by kernel_rfl) (by kernel_rfl) (by kernel_rfl) (fun _ _ _ h => h) (Or.inl ⟨by rfl, ?hy4⟩) (by assumption) ?_
          case hy4 => (intro w hSw; (try dsimp only at hSw); go_simp; try with_reducible rfl)
          try simp only [Act.put, List.setIfInBounds_toArray, List.set_cons_zero, List.set_cons_succ]
          refine wpAnyH_take (i := 6) (oi := { dst := some 59, op := Go.Op.extract (Go.Operand.tmp 53) 2, type := 38, pos := "law.go:210", after := #[{ on := 3, ground := Go.Ground.data }, { on := 9, ground := Go.Ground.gcOnly Go.Departure.lateStores }], guard := none }) (v := ?v5) rfl (by kernel_rfl) (by kernel_rfl) (by kernel_rfl) (fun _ _ _ h => h) (Or.inl ⟨by rfl, ?hy5⟩) (by assumption) ?_
          case hy5 => (intro w hSw; (try dsimp only at hSw); go_simp; try with_reducible rfl)
          try simp only [Act.put, List.setIfInBounds_toArray, List.set_cons_zero, List.set_cons_succ]
          refine wpAnyH_ready (rs := [7]) (by kernel_rfl) (by simp) ?_
          refine (AllReadyH.cons (i := 7) (o := { dst := some 14, op := Go.Op.alloc 37, type := 0, pos := "law.go:210", after := #[], guard := none }) rfl (fun K' hK' => ?_) AllReadyH.nil)
          go_simp
          refine hK'.out _ _ ?_ (fun hHeld => ?_)
          · exact KU _ (by (repeat' first | with_reducible exact Below.refl _ _ | with_reducible assumption | with_reducible refine Bw.drew ?_ | with_reducible refine Bw.drewN ?_ _ | with_reducible refine bw_al ?_ _ | with_reducible refine Bw.then ?_ (by with_reducible assumption)))
          clear hK' K'
          try simp only [Act.put, List.setIfInBounds_toArray, List.set_cons_zero, List.set_cons_succ]
          refine wpAnyH_ready (rs := [8]) (by kernel_rfl) (by simp) ?_
          refine (AllReadyH.cons (i := 8) (o := { dst := none, op := Go.Op.store 37 (Go.Operand.tmp 14) (Go.Operand.tmp 57), type := 0, pos := "law.go:210", after := #[{ on := 7, ground := Go.Ground.data }, { on := 4, ground := Go.Ground.data }, { on := 2, ground := Go.Ground.chain }, { on := 0, ground := Go.Ground.phase }, { on := 1, ground := Go.Ground.phase }, { on := 2, ground := Go.Ground.phase }, { on := 3, ground := Go.Ground.phase }, { on := 4, ground := Go.Ground.phase }, { on := 5, ground := Go.Ground.textOnly Go.Departure.lateStores }, { on := 6, ground := Go.Ground.textOnly Go.Departure.lateStores }, { on := 7, ground := Go.Ground.phase }], guard := none }) rfl (fun K' hK' => ?_) AllReadyH.nil)
          go_simp
          refine hK'.out _ _ ?_ (fun hHeld => ?_)
          · exact KU _ (by (repeat' first | with_reducible exact Below.refl _ _ | with_reducible assumption | with_reducible refine Bw.drew ?_ | with_reducible refine Bw.drewN ?_ _ | with_reducible refine bw_al ?_ _ | with_reducible refine Bw.then ?_ (by with_reducible assumption)))
          clear hK' K'
          try simp only [Act.put, List.setIfInBounds_toArray, List.set_cons_zero, List.set_cons_succ]
          refine wpAnyH_take (i := 9) (oi := { dst := some 15, op := Go.Op.assign (Go.Operand.tmp 58), type := 4, pos := "law.go:210", after := #[{ on := 5, ground := Go.Ground.data }, { on := 8, ground := Go.Ground.chain }, { on := 0, ground := Go.Ground.phase }, { on := 1, ground := Go.Ground.phase }, { on := 2, ground := Go.Ground.phase }, { on := 3, ground := Go.Ground.phase }, { on := 4, ground := Go.Ground.phase }, { on := 5, ground := Go.Ground.phase }, { on := 6, ground := Go.Ground.textOnly Go.Departure.lateStores }, { on := 7, ground := Go.Ground.phase }, { on := 8, ground := Go.Ground.phase }], guard := none }) (v := ?v6) rfl (by kernel_rfl) (by kernel_rfl) (by kernel_rfl) (fun _ _ _ h => h) (Or.inl ⟨by rfl, ?hy6⟩) (by assumption) ?_
          case hy6 => (intro w hSw; (try dsimp only at hSw); go_simp; try with_reducible rfl)
          try simp only [Act.put, List.setIfInBounds_toArray, List.set_cons_zero, List.set_cons_succ]
          refine wpAnyH_take (i := 10) (oi := { dst := some 16, op := Go.Op.assign (Go.Operand.tmp 59), type := 38, pos := "law.go:210", after := #[{ on := 6, ground := Go.Ground.data }, { on := 9, ground := Go.Ground.chain }, { on := 0, ground := Go.Ground.phase }, { on := 1, ground := Go.Ground.phase }, { on := 2, ground := Go.Ground.phase }, { on := 3, ground := Go.Ground.phase }, { on := 4, ground := Go.Ground.phase }, { on := 5, ground := Go.Ground.phase }, { on := 6, ground := Go.Ground.phase }, { on := 7, ground := Go.Ground.phase }, { on := 8, ground := Go.Ground.phase }, { on := 9, ground := Go.Ground.phase }], guard := none }) (v := ?v7) rfl (by kernel_rfl) (by kernel_rfl) (by kernel_rfl) (fun _ _ _ h => h) (Or.inl ⟨by rfl, ?hy7⟩) (by assumption) ?_
          case hy7 => (intro w hSw; (try dsimp only at hSw); go_simp; try with_reducible rfl)
          try simp only [Act.put, List.setIfInBounds_toArray, List.set_cons_zero, List.set_cons_succ]
          refine wpAnyH_done (by kernel_rfl) ?_ _
          exact ⟨_, gA, UB, rB, sB, rfl, (by (repeat' first | with_reducible exact Below.refl _ _ | with_reducible assumption | with_reducible refine Bw.drew ?_ | with_reducible refine Bw.drewN ?_ _ | with_reducible refine bw_al ?_ _ | with_reducible refine Bw.then ?_ (by with_reducible assumption))), at_new rfl, sl_nil_any huB⟩
        · have hwA : Bw W9 wA := (by (repeat' first | with_reducible exact Below.refl _ _ | with_reducible assumption | with_reducible refine Bw.drew ?_ | with_reducible refine Bw.drewN ?_ _ | with_reducible refine bw_al ?_ _ | with_reducible refine Bw.then ?_ (by with_reducible assumption)))
          go_simp
          refine hK'.out _ _ ?_ (fun hHeld => ?_)
          · exact KU _ (by (repeat' first | with_reducible exact Below.refl _ _ | with_reducible assumption | with_reducible refine Bw.drew ?_ | with_reducible refine Bw.drewN ?_ _ | with_reducible refine bw_al ?_ _ | with_reducible refine Bw.then ?_ (by with_reducible assumption)))
          clear hK' K'
          try simp only [Act.put, List.setIfInBounds_toArray, List.set_cons_zero, List.set_cons_succ]
          refine wpAnyH_ready (rs := [2]) (by kernel_rfl) (by simp) ?_
          refine (AllReadyH.cons (i := 2) (o := { dst := some 56, op := Go.Op.call { callee := Go.Callee.value (Go.Operand.func 18), args := #[Go.Operand.tmp 54, Go.Operand.tmp 55, Go.Operand.const (Go.Value.int Go.IntKind.i64 0)], argTypes := #[34, 29, 3] }, type := 39, pos := "law.go:210", after := #[{ on := 0, ground := Go.Ground.data }, { on := 1, ground := Go.Ground.data }, { on := 1, ground := Go.Ground.chain }], guard := none }) rfl (fun K' hK' => ?_) AllReadyH.nil)
          go_simp
          refine (step_any (r := rUns) (l := sawL) (i := 0) (hTw.after (by (repeat' first | with_reducible exact Below.refl _ _ | with_reducible assumption | with_reducible refine Bw.drew ?_ | with_reducible refine Bw.drewN ?_ _ | with_reducible refine bw_al ?_ _ | with_reducible refine Bw.then ?_ (by with_reducible assumption)))) (hU4.after (by (repeat' first | with_reducible exact Below.refl _ _ | with_reducible assumption | with_reducible refine Bw.drew ?_ | with_reducible refine Bw.drewN ?_ _ | with_reducible refine bw_al ?_ _ | with_reducible refine Bw.then ?_ (by with_reducible assumption)))) rdNil (hsA.after (by (repeat' first | with_reducible exact Below.refl _ _ | with_reducible assumption | with_reducible refine Bw.drew ?_ | with_reducible refine Bw.drewN ?_ _ | with_reducible refine bw_al ?_ _ | with_reducible refine Bw.then ?_ (by with_reducible assumption)))).rd).mono ?_
          intro e wB hr
          rw [Y3] at hr
          obtain ⟨uB, rfl, hbB, huB⟩ : ∃ u, e = .returned (.tuple #[.agg #[.string cNo.1, u], .bool true, .int .i64 0]) ∧ Bw _ wB ∧ Sl tRdg wB (Hi _) u cNo.2 := hr
          obtain ⟨UB, rB, sB, rfl, _, _, _⟩ := huB.form'
          try dsimp only
          refine hK'.out _ _ ?_ (fun hHeld => ?_)
          · exact KU _ (by (repeat' first | with_reducible exact Below.refl _ _ | with_reducible assumption | with_reducible refine Bw.drew ?_ | with_reducible refine Bw.drewN ?_ _ | with_reducible refine bw_al ?_ _ | with_reducible refine Bw.then ?_ (by with_reducible assumption)))
          clear hK' K'
          try simp only [Act.put, List.setIfInBounds_toArray, List.set_cons_zero, List.set_cons_succ]
          refine wpAnyH_take (i := 3) (oi := { dst := some 53, op := Go.Op.move (Go.Operand.tmp 56), type := 39, pos := "law.go:210", after := #[{ on := 2, ground := Go.Ground.data }], guard := none }) (v := ?v8) rfl (by kernel_rfl) (by kernel_rfl) (by kernel_rfl) (fun _ _ _ h => h) (Or.inl ⟨by rfl, ?hy8⟩) (by assumption) ?_
          case hy8 => (intro w hSw; (try dsimp only at hSw); go_simp; try with_reducible rfl)
          try simp only [Act.put, List.setIfInBounds_toArray, List.set_cons_zero, List.set_cons_succ]
          refine wpAnyH_take (i := 4) (oi := { dst := some 57, op := Go.Op.extract (Go.Operand.tmp 53) 0, type := 37, pos := "law.go:210", after := #[{ on := 3, ground := Go.Ground.data }], guard := none }) (v := ?v9) rfl (by kernel_rfl) (by kernel_rfl) (by kernel_rfl) (fun _ _ _ h => h) (Or.inl ⟨by rfl, ?hy9⟩) (by assumption) ?_
          case hy9 => (intro w hSw; (try dsimp only at hSw); go_simp; try with_reducible rfl)
          try simp only [Act.put, List.setIfInBounds_toArray, List.set_cons_zero, List.set_cons_succ]
          refine wpAnyH_take (i := 5) (oi := { dst := some 58, op := Go.Op.extract (Go.Operand.tmp 53) 1, type := 4, pos := "law.go:210", after := #[{ on := 3, ground := Go.Ground.data }, { on := 8, ground := Go.Ground.gcOnly Go.Departure.lateStores }], guard := none }) (v := ?v10) rfl (by kernel_rfl) (by kernel_rfl) (by kernel_rfl) (fun _ _ _ h => h) (Or.inl ⟨by rfl, ?hy10⟩) (by assumption) ?_
          case hy10 => (intro w hSw; (try dsimp only at hSw); go_simp; try with_reducible rfl)
          try simp only [Act.put, List.setIfInBounds_toArray, List.set_cons_zero, List.set_cons_succ]
          refine wpAnyH_take (i := 6) (oi := { dst := some 59, op := Go.Op.extract (Go.Operand.tmp 53) 2, type := 38, pos := "law.go:210", after := #[{ on := 3, ground := Go.Ground.data }, { on := 9, ground := Go.Ground.gcOnly Go.Departure.lateStores }], guard := none }) (v := ?v11) rfl (by kernel_rfl) (by kernel_rfl) (by kernel_rfl) (fun _ _ _ h => h) (Or.inl ⟨by rfl, ?hy11⟩) (by assumption) ?_
          case hy11 => (intro w hSw; (try dsimp only at hSw); go_simp; try with_reducible rfl)
          try simp only [Act.put, List.setIfInBounds_toArray, List.set_cons_zero, List.set_cons_succ]
          have rz : wB.heap[wA.heap.size]? = some (.cells #[.string ⟨#[]⟩, .slice none 0 0] 37) := row_bw hbB (at_new (o := .cells #[.string ⟨#[]⟩, .slice none 0 0] 37) (by simp))
          have z0 := row2_0 rz
          have z1 := row2_1 rz
          have f0 := frozen_of_cells (i := 0) rz
          have f1 := frozen_of_cells (i := 1) rz
          have hge : W9.heap.size ≤ wA.heap.size := hwA.size
          refine wpAnyH_ready (rs := [8]) (by kernel_rfl) (by simp) ?_
          refine (AllReadyH.cons (i := 8) (o := { dst := none, op := Go.Op.store 37 (Go.Operand.tmp 14) (Go.Operand.tmp 57), type := 0, pos := "law.go:210", after := #[{ on := 7, ground := Go.Ground.data }, { on := 4, ground := Go.Ground.data }, { on := 2, ground := Go.Ground.chain }, { on := 0, ground := Go.Ground.phase }, { on := 1, ground := Go.Ground.phase }, { on := 2, ground := Go.Ground.phase }, { on := 3, ground := Go.Ground.phase }, { on := 4, ground := Go.Ground.phase }, { on := 5, ground := Go.Ground.textOnly Go.Departure.lateStores }, { on := 6, ground := Go.Ground.textOnly Go.Departure.lateStores }, { on := 7, ground := Go.Ground.phase }], guard := none }) rfl (fun K' hK' => ?_) AllReadyH.nil)
          go_simp
          refine hK'.out _ _ ?_ (fun hHeld => ?_)
          · exact KU _ (bw_grown (bw_grown (by (repeat' first | with_reducible exact Below.refl _ _ | with_reducible assumption | with_reducible refine Bw.drew ?_ | with_reducible refine Bw.drewN ?_ _ | with_reducible refine bw_al ?_ _ | with_reducible refine Bw.then ?_ (by with_reducible assumption))) (set_grown _ _ _ _) hge) (set_grown _ _ _ _) hge)
          clear hK' K'
          try simp only [Act.put, List.setIfInBounds_toArray, List.set_cons_zero, List.set_cons_succ]
          refine wpAnyH_take (i := 9) (oi := { dst := some 15, op := Go.Op.assign (Go.Operand.tmp 58), type := 4, pos := "law.go:210", after := #[{ on := 5, ground := Go.Ground.data }, { on := 8, ground := Go.Ground.chain }, { on := 0, ground := Go.Ground.phase }, { on := 1, ground := Go.Ground.phase }, { on := 2, ground := Go.Ground.phase }, { on := 3, ground := Go.Ground.phase }, { on := 4, ground := Go.Ground.phase }, { on := 5, ground := Go.Ground.phase }, { on := 6, ground := Go.Ground.textOnly Go.Departure.lateStores }, { on := 7, ground := Go.Ground.phase }, { on := 8, ground := Go.Ground.phase }], guard := none }) (v := ?v12) rfl (by kernel_rfl) (by kernel_rfl) (by kernel_rfl) (fun _ _ _ h => h) (Or.inl ⟨by rfl, ?hy12⟩) (by assumption) ?_
          case hy12 => (intro w hSw; (try dsimp only at hSw); go_simp; try with_reducible rfl)
          try simp only [Act.put, List.setIfInBounds_toArray, List.set_cons_zero, List.set_cons_succ]
          refine wpAnyH_take (i := 10) (oi := { dst := some 16, op := Go.Op.assign (Go.Operand.tmp 59), type := 38, pos := "law.go:210", after := #[{ on := 6, ground := Go.Ground.data }, { on := 9, ground := Go.Ground.chain }, { on := 0, ground := Go.Ground.phase }, { on := 1, ground := Go.Ground.phase }, { on := 2, ground := Go.Ground.phase }, { on := 3, ground := Go.Ground.phase }, { on := 4, ground := Go.Ground.phase }, { on := 5, ground := Go.Ground.phase }, { on := 6, ground := Go.Ground.phase }, { on := 7, ground := Go.Ground.phase }, { on := 8, ground := Go.Ground.phase }, { on := 9, ground := Go.Ground.phase }], guard := none }) (v := ?v13) rfl (by kernel_rfl) (by kernel_rfl) (by kernel_rfl) (fun _ _ _ h => h) (Or.inl ⟨by rfl, ?hy13⟩) (by assumption) ?_
          case hy13 => (intro w hSw; (try dsimp only at hSw); go_simp; try with_reducible rfl)
          try simp only [Act.put, List.setIfInBounds_toArray, List.set_cons_zero, List.set_cons_succ]
          refine wpAnyH_done (by kernel_rfl) ?_ _
          exact ⟨_, gA, UB, rB, sB, rfl, bw_grown (bw_grown (by (repeat' first | with_reducible exact Below.refl _ _ | with_reducible assumption | with_reducible refine Bw.drew ?_ | with_reducible refine Bw.drewN ?_ _ | with_reducible refine bw_al ?_ _ | with_reducible refine Bw.then ?_ (by with_reducible assumption))) (set_grown _ _ _ _) hge) (set_grown _ _ _ _) hge, (heap_setCell_same _ _ 1 _ _ _ (heap_setCell_same _ _ 0 _ _ _ rz)), sl_nil_any huB⟩
      · go_simp
        refine hK'.out _ _ ?_ (fun hHeld => ?_)
        · exact KU _ (by (repeat' first | with_reducible exact Below.refl _ _ | with_reducible assumption | with_reducible refine Bw.drew ?_ | with_reducible refine Bw.drewN ?_ _ | with_reducible refine bw_al ?_ _ | with_reducible refine Bw.then ?_ (by with_reducible assumption)))
        clear hK' K'
        try simp only [Act.put, List.setIfInBounds_toArray, List.set_cons_zero, List.set_cons_succ]
        refine wpAnyH_ready (rs := [1]) (by kernel_rfl) (by simp) ?_
        refine (AllReadyH.cons (i := 1) (o := { dst := some 55, op := Go.Op.call { callee := Go.Callee.value (Go.Operand.func 30), args := #[], argTypes := #[] }, type := 29, pos := "law.go:210", after := #[], guard := none }) rfl (fun K' hK' => ?_) AllReadyH.nil)
        go_simp
        refine saw_any.mono ?_
        rintro e wA ⟨gA, _, _, _, _, _, _, _, _, _, _, _, _, rfl, hbA, _, hsA⟩
        try dsimp only
        refine hK'.out _ _ ?_ (fun hHeld => ?_)
        · exact KU _ (by (repeat' first | with_reducible exact Below.refl _ _ | with_reducible assumption | with_reducible refine Bw.drew ?_ | with_reducible refine Bw.drewN ?_ _ | with_reducible refine bw_al ?_ _ | with_reducible refine Bw.then ?_ (by with_reducible assumption)))
        clear hK' K'
        try simp only [Act.put, List.setIfInBounds_toArray, List.set_cons_zero, List.set_cons_succ]
        refine wpAnyH_ready (rs := [2]) (by kernel_rfl) (by simp) ?_
        refine (AllReadyH.cons (i := 2) (o := { dst := some 56, op := Go.Op.call { callee := Go.Callee.value (Go.Operand.func 18), args := #[Go.Operand.tmp 54, Go.Operand.tmp 55, Go.Operand.const (Go.Value.int Go.IntKind.i64 0)], argTypes := #[34, 29, 3] }, type := 39, pos := "law.go:210", after := #[{ on := 0, ground := Go.Ground.data }, { on := 1, ground := Go.Ground.data }, { on := 1, ground := Go.Ground.chain }], guard := none }) rfl (fun K' hK' => ?_) AllReadyH.nil)
        go_simp
        refine (step_any (r := rUns) (l := sawL) (i := 0) (hTw.after (by (repeat' first | with_reducible exact Below.refl _ _ | with_reducible assumption | with_reducible refine Bw.drew ?_ | with_reducible refine Bw.drewN ?_ _ | with_reducible refine bw_al ?_ _ | with_reducible refine Bw.then ?_ (by with_reducible assumption)))) (hU4.after (by (repeat' first | with_reducible exact Below.refl _ _ | with_reducible assumption | with_reducible refine Bw.drew ?_ | with_reducible refine Bw.drewN ?_ _ | with_reducible refine bw_al ?_ _ | with_reducible refine Bw.then ?_ (by with_reducible assumption)))) rdNil (hsA.after (by (repeat' first | with_reducible exact Below.refl _ _ | with_reducible assumption | with_reducible refine Bw.drew ?_ | with_reducible refine Bw.drewN ?_ _ | with_reducible refine bw_al ?_ _ | with_reducible refine Bw.then ?_ (by with_reducible assumption)))).rd).mono ?_
        intro e wB hr
        rw [Y3] at hr
        obtain ⟨uB, rfl, hbB, huB⟩ : ∃ u, e = .returned (.tuple #[.agg #[.string cNo.1, u], .bool true, .int .i64 0]) ∧ Bw _ wB ∧ Sl tRdg wB (Hi _) u cNo.2 := hr
        obtain ⟨UB, rB, sB, rfl, _, _, _⟩ := huB.form'
        try dsimp only
        refine hK'.out _ _ ?_ (fun hHeld => ?_)
        · exact KU _ (by (repeat' first | with_reducible exact Below.refl _ _ | with_reducible assumption | with_reducible refine Bw.drew ?_ | with_reducible refine Bw.drewN ?_ _ | with_reducible refine bw_al ?_ _ | with_reducible refine Bw.then ?_ (by with_reducible assumption)))
        clear hK' K'
        try simp only [Act.put, List.setIfInBounds_toArray, List.set_cons_zero, List.set_cons_succ]
        refine wpAnyH_take (i := 3) (oi := { dst := some 53, op := Go.Op.move (Go.Operand.tmp 56), type := 39, pos := "law.go:210", after := #[{ on := 2, ground := Go.Ground.data }], guard := none }) (v := ?v14) rfl (by kernel_rfl) (by kernel_rfl) (by kernel_rfl) (fun _ _ _ h => h) (Or.inl ⟨by rfl, ?hy14⟩) (by assumption) ?_
        case hy14 => (intro w hSw; (try dsimp only at hSw); go_simp; try with_reducible rfl)
        try simp only [Act.put, List.setIfInBounds_toArray, List.set_cons_zero, List.set_cons_succ]
        refine wpAnyH_take (i := 4) (oi := { dst := some 57, op := Go.Op.extract (Go.Operand.tmp 53) 0, type := 37, pos := "law.go:210", after := #[{ on := 3, ground := Go.Ground.data }], guard := none }) (v := ?v15) rfl (by kernel_rfl) (by kernel_rfl) (by kernel_rfl) (fun _ _ _ h => h) (Or.inl ⟨by rfl, ?hy15⟩) (by assumption) ?_
        case hy15 => (intro w hSw; (try dsimp only at hSw); go_simp; try with_reducible rfl)
        try simp only [Act.put, List.setIfInBounds_toArray, List.set_cons_zero, List.set_cons_succ]
        refine wpAnyH_take (i := 5) (oi := { dst := some 58, op := Go.Op.extract (Go.Operand.tmp 53) 1, type := 4, pos := "law.go:210", after := #[{ on := 3, ground := Go.Ground.data }, { on := 8, ground := Go.Ground.gcOnly Go.Departure.lateStores }], guard := none }) (v := ?v16) rfl (by kernel_rfl) (by kernel_rfl) (by kernel_rfl) (fun _ _ _ h => h) (Or.inl ⟨by rfl, ?hy16⟩) (by assumption) ?_
        case hy16 => (intro w hSw; (try dsimp only at hSw); go_simp; try with_reducible rfl)
        try simp only [Act.put, List.setIfInBounds_toArray, List.set_cons_zero, List.set_cons_succ]
        refine wpAnyH_take (i := 6) (oi := { dst := some 59, op := Go.Op.extract (Go.Operand.tmp 53) 2, type := 38, pos := "law.go:210", after := #[{ on := 3, ground := Go.Ground.data }, { on := 9, ground := Go.Ground.gcOnly Go.Departure.lateStores }], guard := none }) (v := ?v17) rfl (by kernel_rfl) (by kernel_rfl) (by kernel_rfl) (fun _ _ _ h => h) (Or.inl ⟨by rfl, ?hy17⟩) (by assumption) ?_
        case hy17 => (intro w hSw; (try dsimp only at hSw); go_simp; try with_reducible rfl)
        try simp only [Act.put, List.setIfInBounds_toArray, List.set_cons_zero, List.set_cons_succ]
        have rz : wB.heap[W9.heap.size]? = some (.cells #[.string ⟨#[]⟩, .slice none 0 0] 37) := row_bw hbB (row_bw hbA (at_new (o := .cells #[.string ⟨#[]⟩, .slice none 0 0] 37) (by simp)))
        have z0 := row2_0 rz
        have z1 := row2_1 rz
        have f0 := frozen_of_cells (i := 0) rz
        have f1 := frozen_of_cells (i := 1) rz
        have hge : W9.heap.size ≤ W9.heap.size := (by omega)
        refine wpAnyH_ready (rs := [8]) (by kernel_rfl) (by simp) ?_
        refine (AllReadyH.cons (i := 8) (o := { dst := none, op := Go.Op.store 37 (Go.Operand.tmp 14) (Go.Operand.tmp 57), type := 0, pos := "law.go:210", after := #[{ on := 7, ground := Go.Ground.data }, { on := 4, ground := Go.Ground.data }, { on := 2, ground := Go.Ground.chain }, { on := 0, ground := Go.Ground.phase }, { on := 1, ground := Go.Ground.phase }, { on := 2, ground := Go.Ground.phase }, { on := 3, ground := Go.Ground.phase }, { on := 4, ground := Go.Ground.phase }, { on := 5, ground := Go.Ground.textOnly Go.Departure.lateStores }, { on := 6, ground := Go.Ground.textOnly Go.Departure.lateStores }, { on := 7, ground := Go.Ground.phase }], guard := none }) rfl (fun K' hK' => ?_) AllReadyH.nil)
        go_simp
        refine hK'.out _ _ ?_ (fun hHeld => ?_)
        · exact KU _ (bw_grown (bw_grown (by (repeat' first | with_reducible exact Below.refl _ _ | with_reducible assumption | with_reducible refine Bw.drew ?_ | with_reducible refine Bw.drewN ?_ _ | with_reducible refine bw_al ?_ _ | with_reducible refine Bw.then ?_ (by with_reducible assumption))) (set_grown _ _ _ _) hge) (set_grown _ _ _ _) hge)
        clear hK' K'
        try simp only [Act.put, List.setIfInBounds_toArray, List.set_cons_zero, List.set_cons_succ]
        refine wpAnyH_take (i := 9) (oi := { dst := some 15, op := Go.Op.assign (Go.Operand.tmp 58), type := 4, pos := "law.go:210", after := #[{ on := 5, ground := Go.Ground.data }, { on := 8, ground := Go.Ground.chain }, { on := 0, ground := Go.Ground.phase }, { on := 1, ground := Go.Ground.phase }, { on := 2, ground := Go.Ground.phase }, { on := 3, ground := Go.Ground.phase }, { on := 4, ground := Go.Ground.phase }, { on := 5, ground := Go.Ground.phase }, { on := 6, ground := Go.Ground.textOnly Go.Departure.lateStores }, { on := 7, ground := Go.Ground.phase }, { on := 8, ground := Go.Ground.phase }], guard := none }) (v := ?v18) rfl (by kernel_rfl) (by kernel_rfl) (by kernel_rfl) (fun _ _ _ h => h) (Or.inl ⟨by rfl, ?hy18⟩) (by assumption) ?_
        case hy18 => (intro w hSw; (try dsimp only at hSw); go_simp; try with_reducible rfl)
        try simp only [Act.put, List.setIfInBounds_toArray, List.set_cons_zero, List.set_cons_succ]
        refine wpAnyH_take (i := 10) (oi := { dst := some 16, op := Go.Op.assign (Go.Operand.tmp 59), type := 38, pos := "law.go:210", after := #[{ on := 6, ground := Go.Ground.data }, { on := 9, ground := Go.Ground.chain }, { on := 0, ground := Go.Ground.phase }, { on := 1, ground := Go.Ground.phase }, { on := 2, ground := Go.Ground.phase }, { on := 3, ground := Go.Ground.phase }, { on := 4, ground := Go.Ground.phase }, { on := 5, ground := Go.Ground.phase }, { on := 6, ground := Go.Ground.phase }, { on := 7, ground := Go.Ground.phase }, { on := 8, ground := Go.Ground.phase }, { on := 9, ground := Go.Ground.phase }], guard := none }) (v := ?v19) rfl (by kernel_rfl) (by kernel_rfl) (by kernel_rfl) (fun _ _ _ h => h) (Or.inl ⟨by rfl, ?hy19⟩) (by assumption) ?_
        case hy19 => (intro w hSw; (try dsimp only at hSw); go_simp; try with_reducible rfl)
        try simp only [Act.put, List.setIfInBounds_toArray, List.set_cons_zero, List.set_cons_succ]
        refine wpAnyH_done (by kernel_rfl) ?_ _
        exact ⟨_, gA, UB, rB, sB, rfl, bw_grown (bw_grown (by (repeat' first | with_reducible exact Below.refl _ _ | with_reducible assumption | with_reducible refine Bw.drew ?_ | with_reducible refine Bw.drewN ?_ _ | with_reducible refine bw_al ?_ _ | with_reducible refine Bw.then ?_ (by with_reducible assumption))) (set_grown _ _ _ _) hge) (set_grown _ _ _ _) hge, (heap_setCell_same _ _ 1 _ _ _ (heap_setCell_same _ _ 0 _ _ _ rz)), sl_nil_any huB⟩
    as_aux_lemma =>
      have he : e = .normal := by cases e <;> first | rfl | exact h.elim
      subst he
      obtain ⟨gb, gs, U14, n14, c14, rfl, k15, rx14, hu14⟩ := h
      have hTx := hTw.after k15
      have hU5 := hU4.after k15
      have KV : ∀ w', Bw w14 w' → _ := fun w' kk => KU w' (k15.then kk)
      go_wp2_with fail
      refine Code.wp_mono (Q := fun e a W => match e with | .normal => (fun a W => ∃ gz gy U n c, a = { tmps := #[.bool false, .pointer (some ⟨w2.heap.size, 0, none⟩), .pointer (some ⟨w2.heap.size + 1, 0, none⟩), .pointer (some ⟨w3.heap.size, 0, none⟩), .pointer (some ⟨w4.heap.size, 0, none⟩), .pointer (some ⟨w7.heap.size, 0, none⟩), .bool true, .int .i64 0, .pointer (some ⟨w10.heap.size, 0, none⟩), .bool false, .int .i64 0, .pointer (some ⟨w13.heap.size, 0, none⟩), .bool false, .int .i64 0, .pointer (some ⟨gb, 0, none⟩), .bool true, .int .i64 0, .pointer (some ⟨gz, 0, none⟩), .bool false, .int .i64 1, .agg #[.int .i64 (-1), .bool false, .bool false, .bool false, .slice A1 n1 c1, .slice none 0 0], .agg #[.int .i64 0, .bool false, .bool false, .bool false, .slice A2 n2 c2, .slice none 0 0], .pointer (some ⟨w2.heap.size, 2, none⟩), .pointer (some ⟨w2.heap.size + 1, 3, none⟩), .slice (some ⟨g3, 0, none⟩) 3 3, .pointer (some ⟨g3, 2, none⟩), .pointer (some ⟨g3, 3, none⟩), .slice (some ⟨b3, o3, none⟩) 2 cc3, .pointer (some ⟨b3, o3, none⟩), .agg #[.slice P3 p3 q3], .agg #[.int .i64 2, .slice A4 n4 c4, .slice none 0 0, .bool false], .pointer (some ⟨w4.heap.size, 3, none⟩), .tuple #[.agg #[.string cVP.fst, .slice U7 r7 s7], .bool true, .int .i64 0], .agg #[.int .i64 1, .slice A5 n5 c5, .slice none 0 0, .bool false], .slice (some ⟨g6, 0, none⟩) 3 3, .tuple #[.agg #[.string cVP.fst, .slice U7 r7 s7], .bool true, .int .i64 0], .agg #[.string cVP.fst, .slice U7 r7 s7], .bool true, .int .i64 0, .tuple #[.agg #[.string cSaw.fst, .slice U10 r10 s10], .bool false, .int .i64 0], .agg #[.int .i64 1, .slice A8 n8 c8, .slice none 0 0, .bool false], .slice (some ⟨g9, 0, none⟩) 3 3, .tuple #[.agg #[.string cSaw.fst, .slice U10 r10 s10], .bool false, .int .i64 0], .agg #[.string cSaw.fst, .slice U10 r10 s10], .bool false, .int .i64 0, .tuple #[.agg #[.string cThe.fst, .slice U13 r13 s13], .bool false, .int .i64 0], .agg #[.int .i64 2, .slice A11 n11 c11, .slice none 0 0, .bool false], .slice (some ⟨g12, 0, none⟩) 3 3, .tuple #[.agg #[.string cThe.fst, .slice U13 r13 s13], .bool false, .int .i64 0], .agg #[.string cThe.fst, .slice U13 r13 s13], .bool false, .int .i64 0, .tuple #[.agg #[.string cNo.1, .slice U14 n14 c14], .bool true, .int .i64 0], .agg #[.int .i64 2, .slice A4 n4 c4, .slice none 0 0, .bool true], .slice (some ⟨gs, 0, none⟩) 3 3, .tuple #[.agg #[.string cNo.1, .slice U14 n14 c14], .bool true, .int .i64 0], .agg #[.string cNo.1, .slice U14 n14 c14], .bool true, .int .i64 0, .tuple #[.agg #[.string ⟨#[]⟩, .slice U n c], .bool false, .int .i64 1], .agg #[.int .i64 2, .slice A4 n4 c4, .slice none 0 0, .bool true], .slice (some ⟨gy, 0, none⟩) 3 3, .tuple #[.agg #[.string ⟨#[]⟩, .slice U n c], .bool false, .int .i64 1], .agg #[.string ⟨#[]⟩, .slice U n c], .bool false, .int .i64 1, undef, undef, undef, undef, undef, undef, undef, undef, undef, undef, undef, undef, undef, undef, undef, undef, undef, undef, undef, undef, undef, undef, undef, undef, undef, undef, undef, undef, undef, undef, undef, undef, undef, undef, undef, undef, undef, undef, undef, undef, undef, undef, undef, undef, undef, undef, undef, undef, undef, undef, undef, undef, undef, undef, undef, undef, undef, undef, undef, undef, undef, undef, undef, undef, undef, undef, undef, undef, undef, undef, undef, undef, undef, undef, undef, undef, undef, undef, undef, undef, undef, undef, undef, undef, undef, undef, undef, undef, undef, undef, undef, undef, undef, undef, undef, undef, undef, undef, undef, undef, undef, undef, undef, undef, undef], defers := [] } ∧ Bw w14 W) a W | _ => False) (fun e a w15 h => ?_) ?_
      rotate_left 1
      · refine wp_region_held_drew (S := fun w' => w'.cell? ⟨w4.heap.size, 0, none⟩ = some (.int .i64 2) ∧ w'.cell? ⟨w4.heap.size, 1, none⟩ = some (.slice A4 n4 c4) ∧ w'.cell? ⟨w4.heap.size, 2, none⟩ = some (.slice none 0 0) ∧ w'.cell? ⟨w4.heap.size, 3, none⟩ = some (.bool true)) (by kernel_rfl) ?_ (fun hHeld => ?_)
        · exact KV _ (by (repeat' first | with_reducible exact Below.refl _ _ | with_reducible assumption | with_reducible refine Bw.drew ?_ | with_reducible refine Bw.drewN ?_ _ | with_reducible refine bw_al ?_ _ | with_reducible refine Bw.then ?_ (by with_reducible assumption)))
        refine wpAnyH_take (i := 0) (oi := { dst := some 61, op := Go.Op.load 34 (Go.Operand.tmp 4), type := 34, pos := "law.go:211", after := #[], guard := none }) (v := ?v20) rfl (by kernel_rfl) (by kernel_rfl) (by kernel_rfl) (fun _ _ _ h => h) (Or.inl ⟨by rfl, ?hy20⟩) (by assumption) ?_
        case hy20 => (intro w hSw; (try dsimp only at hSw); go_simp; try with_reducible rfl)
        try simp only [Act.put, List.setIfInBounds_toArray, List.set_cons_zero, List.set_cons_succ]
        refine wpAnyH_ready (rs := [1, 7]) (by kernel_rfl) (by simp) ?_
        refine (AllReadyH.cons (i := 1) (o := { dst := some 62, op := Go.Op.call { callee := Go.Callee.value (Go.Operand.func 30), args := #[], argTypes := #[] }, type := 29, pos := "law.go:211", after := #[], guard := none }) rfl (fun K' hK' => ?_) (AllReadyH.cons (i := 7) (o := { dst := some 17, op := Go.Op.alloc 37, type := 0, pos := "law.go:211", after := #[], guard := none }) rfl (fun K' hK' => ?_) AllReadyH.nil))
        · go_simp
          refine saw_any.mono ?_
          rintro e wA ⟨gA, _, _, _, _, _, _, _, _, _, _, _, _, rfl, hbA, _, hsA⟩
          try dsimp only
          refine hK'.out _ _ ?_ (fun hHeld => ?_)
          · exact KV _ (by (repeat' first | with_reducible exact Below.refl _ _ | with_reducible assumption | with_reducible refine Bw.drew ?_ | with_reducible refine Bw.drewN ?_ _ | with_reducible refine bw_al ?_ _ | with_reducible refine Bw.then ?_ (by with_reducible assumption)))
          clear hK' K'
          try simp only [Act.put, List.setIfInBounds_toArray, List.set_cons_zero, List.set_cons_succ]
          refine wpAnyH_ready (rs := [2, 7]) (by kernel_rfl) (by simp) ?_
          refine (AllReadyH.cons (i := 2) (o := { dst := some 63, op := Go.Op.call { callee := Go.Callee.value (Go.Operand.func 18), args := #[Go.Operand.tmp 61, Go.Operand.tmp 62, Go.Operand.const (Go.Value.int Go.IntKind.i64 3)], argTypes := #[34, 29, 3] }, type := 39, pos := "law.go:211", after := #[{ on := 0, ground := Go.Ground.data }, { on := 1, ground := Go.Ground.data }, { on := 1, ground := Go.Ground.chain }], guard := none }) rfl (fun K' hK' => ?_) (AllReadyH.cons (i := 7) (o := { dst := some 17, op := Go.Op.alloc 37, type := 0, pos := "law.go:211", after := #[], guard := none }) rfl (fun K' hK' => ?_) AllReadyH.nil))
          · go_simp
            refine (step_any (r := rUns) (l := sawL) (i := 3) (hTx.after (by (repeat' first | with_reducible exact Below.refl _ _ | with_reducible assumption | with_reducible refine Bw.drew ?_ | with_reducible refine Bw.drewN ?_ _ | with_reducible refine bw_al ?_ _ | with_reducible refine Bw.then ?_ (by with_reducible assumption)))) (hU5.after (by (repeat' first | with_reducible exact Below.refl _ _ | with_reducible assumption | with_reducible refine Bw.drew ?_ | with_reducible refine Bw.drewN ?_ _ | with_reducible refine bw_al ?_ _ | with_reducible refine Bw.then ?_ (by with_reducible assumption)))) rdNil (hsA.after (by (repeat' first | with_reducible exact Below.refl _ _ | with_reducible assumption | with_reducible refine Bw.drew ?_ | with_reducible refine Bw.drewN ?_ _ | with_reducible refine bw_al ?_ _ | with_reducible refine Bw.then ?_ (by with_reducible assumption)))).rd).mono ?_
            intro e wB hr
            rw [Y4] at hr
            obtain ⟨uB, rfl, hbB, huB⟩ : ∃ u, e = .returned (.tuple #[.agg #[.string ⟨#[]⟩, u], .bool false, .int .i64 1]) ∧ Bw _ wB ∧ Sl tRdg wB (Hi _) u [] := hr
            obtain ⟨UB, rB, sB, rfl, _, _, _⟩ := huB.form'
            try dsimp only
            refine hK'.out _ _ ?_ (fun hHeld => ?_)
            · exact KV _ (by (repeat' first | with_reducible exact Below.refl _ _ | with_reducible assumption | with_reducible refine Bw.drew ?_ | with_reducible refine Bw.drewN ?_ _ | with_reducible refine bw_al ?_ _ | with_reducible refine Bw.then ?_ (by with_reducible assumption)))
            clear hK' K'
            try simp only [Act.put, List.setIfInBounds_toArray, List.set_cons_zero, List.set_cons_succ]
            refine wpAnyH_take (i := 3) (oi := { dst := some 60, op := Go.Op.move (Go.Operand.tmp 63), type := 39, pos := "law.go:211", after := #[{ on := 2, ground := Go.Ground.data }], guard := none }) (v := ?v21) rfl (by kernel_rfl) (by kernel_rfl) (by kernel_rfl) (fun _ _ _ h => h) (Or.inl ⟨by rfl, ?hy21⟩) (by assumption) ?_
            case hy21 => (intro w hSw; (try dsimp only at hSw); go_simp; try with_reducible rfl)
            try simp only [Act.put, List.setIfInBounds_toArray, List.set_cons_zero, List.set_cons_succ]
            refine wpAnyH_take (i := 4) (oi := { dst := some 64, op := Go.Op.extract (Go.Operand.tmp 60) 0, type := 37, pos := "law.go:211", after := #[{ on := 3, ground := Go.Ground.data }], guard := none }) (v := ?v22) rfl (by kernel_rfl) (by kernel_rfl) (by kernel_rfl) (fun _ _ _ h => h) (Or.inl ⟨by rfl, ?hy22⟩) (by assumption) ?_
            case hy22 => (intro w hSw; (try dsimp only at hSw); go_simp; try with_reducible rfl)
            try simp only [Act.put, List.setIfInBounds_toArray, List.set_cons_zero, List.set_cons_succ]
            refine wpAnyH_take (i := 5) (oi := { dst := some 65, op := Go.Op.extract (Go.Operand.tmp 60) 1, type := 4, pos := "law.go:211", after := #[{ on := 3, ground := Go.Ground.data }, { on := 8, ground := Go.Ground.gcOnly Go.Departure.lateStores }], guard := none }) (v := ?v23) rfl (by kernel_rfl) (by kernel_rfl) (by kernel_rfl) (fun _ _ _ h => h) (Or.inl ⟨by rfl, ?hy23⟩) (by assumption) ?_
            case hy23 => (intro w hSw; (try dsimp only at hSw); go_simp; try with_reducible rfl)
            try simp only [Act.put, List.setIfInBounds_toArray, List.set_cons_zero, List.set_cons_succ]
            refine wpAnyH_take (i := 6) (oi := { dst := some 66, op := Go.Op.extract (Go.Operand.tmp 60) 2, type := 38, pos := "law.go:211", after := #[{ on := 3, ground := Go.Ground.data }, { on := 9, ground := Go.Ground.gcOnly Go.Departure.lateStores }], guard := none }) (v := ?v24) rfl (by kernel_rfl) (by kernel_rfl) (by kernel_rfl) (fun _ _ _ h => h) (Or.inl ⟨by rfl, ?hy24⟩) (by assumption) ?_
            case hy24 => (intro w hSw; (try dsimp only at hSw); go_simp; try with_reducible rfl)
            try simp only [Act.put, List.setIfInBounds_toArray, List.set_cons_zero, List.set_cons_succ]
            refine wpAnyH_ready (rs := [7]) (by kernel_rfl) (by simp) ?_
            refine (AllReadyH.cons (i := 7) (o := { dst := some 17, op := Go.Op.alloc 37, type := 0, pos := "law.go:211", after := #[], guard := none }) rfl (fun K' hK' => ?_) AllReadyH.nil)
            go_simp
            refine hK'.out _ _ ?_ (fun hHeld => ?_)
            · exact KV _ (by (repeat' first | with_reducible exact Below.refl _ _ | with_reducible assumption | with_reducible refine Bw.drew ?_ | with_reducible refine Bw.drewN ?_ _ | with_reducible refine bw_al ?_ _ | with_reducible refine Bw.then ?_ (by with_reducible assumption)))
            clear hK' K'
            try simp only [Act.put, List.setIfInBounds_toArray, List.set_cons_zero, List.set_cons_succ]
            refine wpAnyH_ready (rs := [8]) (by kernel_rfl) (by simp) ?_
            refine (AllReadyH.cons (i := 8) (o := { dst := none, op := Go.Op.store 37 (Go.Operand.tmp 17) (Go.Operand.tmp 64), type := 0, pos := "law.go:211", after := #[{ on := 7, ground := Go.Ground.data }, { on := 4, ground := Go.Ground.data }, { on := 2, ground := Go.Ground.chain }, { on := 0, ground := Go.Ground.phase }, { on := 1, ground := Go.Ground.phase }, { on := 2, ground := Go.Ground.phase }, { on := 3, ground := Go.Ground.phase }, { on := 4, ground := Go.Ground.phase }, { on := 5, ground := Go.Ground.textOnly Go.Departure.lateStores }, { on := 6, ground := Go.Ground.textOnly Go.Departure.lateStores }, { on := 7, ground := Go.Ground.phase }], guard := none }) rfl (fun K' hK' => ?_) AllReadyH.nil)
            go_simp
            refine hK'.out _ _ ?_ (fun hHeld => ?_)
            · exact KV _ (by (repeat' first | with_reducible exact Below.refl _ _ | with_reducible assumption | with_reducible refine Bw.drew ?_ | with_reducible refine Bw.drewN ?_ _ | with_reducible refine bw_al ?_ _ | with_reducible refine Bw.then ?_ (by with_reducible assumption)))
            clear hK' K'
            try simp only [Act.put, List.setIfInBounds_toArray, List.set_cons_zero, List.set_cons_succ]
            refine wpAnyH_take (i := 9) (oi := { dst := some 18, op := Go.Op.assign (Go.Operand.tmp 65), type := 4, pos := "law.go:211", after := #[{ on := 5, ground := Go.Ground.data }, { on := 8, ground := Go.Ground.chain }, { on := 0, ground := Go.Ground.phase }, { on := 1, ground := Go.Ground.phase }, { on := 2, ground := Go.Ground.phase }, { on := 3, ground := Go.Ground.phase }, { on := 4, ground := Go.Ground.phase }, { on := 5, ground := Go.Ground.phase }, { on := 6, ground := Go.Ground.textOnly Go.Departure.lateStores }, { on := 7, ground := Go.Ground.phase }, { on := 8, ground := Go.Ground.phase }], guard := none }) (v := ?v25) rfl (by kernel_rfl) (by kernel_rfl) (by kernel_rfl) (fun _ _ _ h => h) (Or.inl ⟨by rfl, ?hy25⟩) (by assumption) ?_
            case hy25 => (intro w hSw; (try dsimp only at hSw); go_simp; try with_reducible rfl)
            try simp only [Act.put, List.setIfInBounds_toArray, List.set_cons_zero, List.set_cons_succ]
            refine wpAnyH_take (i := 10) (oi := { dst := some 19, op := Go.Op.assign (Go.Operand.tmp 66), type := 38, pos := "law.go:211", after := #[{ on := 6, ground := Go.Ground.data }, { on := 9, ground := Go.Ground.chain }, { on := 0, ground := Go.Ground.phase }, { on := 1, ground := Go.Ground.phase }, { on := 2, ground := Go.Ground.phase }, { on := 3, ground := Go.Ground.phase }, { on := 4, ground := Go.Ground.phase }, { on := 5, ground := Go.Ground.phase }, { on := 6, ground := Go.Ground.phase }, { on := 7, ground := Go.Ground.phase }, { on := 8, ground := Go.Ground.phase }, { on := 9, ground := Go.Ground.phase }], guard := none }) (v := ?v26) rfl (by kernel_rfl) (by kernel_rfl) (by kernel_rfl) (fun _ _ _ h => h) (Or.inl ⟨by rfl, ?hy26⟩) (by assumption) ?_
            case hy26 => (intro w hSw; (try dsimp only at hSw); go_simp; try with_reducible rfl)
            try simp only [Act.put, List.setIfInBounds_toArray, List.set_cons_zero, List.set_cons_succ]
            refine wpAnyH_done (by kernel_rfl) ?_ _
            exact ⟨_, gA, UB, rB, sB, rfl, (by (repeat' first | with_reducible exact Below.refl _ _ | with_reducible assumption | with_reducible refine Bw.drew ?_ | with_reducible refine Bw.drewN ?_ _ | with_reducible refine bw_al ?_ _ | with_reducible refine Bw.then ?_ (by with_reducible assumption)))⟩
          · have hwA : Bw w14 wA := (by (repeat' first | with_reducible exact Below.refl _ _ | with_reducible assumption | with_reducible refine Bw.drew ?_ | with_reducible refine Bw.drewN ?_ _ | with_reducible refine bw_al ?_ _ | with_reducible refine Bw.then ?_ (by with_reducible assumption)))
            go_simp
            refine hK'.out _ _ ?_ (fun hHeld => ?_)
            · exact KV _ (by (repeat' first | with_reducible exact Below.refl _ _ | with_reducible assumption | with_reducible refine Bw.drew ?_ | with_reducible refine Bw.drewN ?_ _ | with_reducible refine bw_al ?_ _ | with_reducible refine Bw.then ?_ (by with_reducible assumption)))
            clear hK' K'
            try simp only [Act.put, List.setIfInBounds_toArray, List.set_cons_zero, List.set_cons_succ]
            refine wpAnyH_ready (rs := [2]) (by kernel_rfl) (by simp) ?_
            refine (AllReadyH.cons (i := 2) (o := { dst := some 63, op := Go.Op.call { callee := Go.Callee.value (Go.Operand.func 18), args := #[Go.Operand.tmp 61, Go.Operand.tmp 62, Go.Operand.const (Go.Value.int Go.IntKind.i64 3)], argTypes := #[34, 29, 3] }, type := 39, pos := "law.go:211", after := #[{ on := 0, ground := Go.Ground.data }, { on := 1, ground := Go.Ground.data }, { on := 1, ground := Go.Ground.chain }], guard := none }) rfl (fun K' hK' => ?_) AllReadyH.nil)
            go_simp
            refine (step_any (r := rUns) (l := sawL) (i := 3) (hTx.after (by (repeat' first | with_reducible exact Below.refl _ _ | with_reducible assumption | with_reducible refine Bw.drew ?_ | with_reducible refine Bw.drewN ?_ _ | with_reducible refine bw_al ?_ _ | with_reducible refine Bw.then ?_ (by with_reducible assumption)))) (hU5.after (by (repeat' first | with_reducible exact Below.refl _ _ | with_reducible assumption | with_reducible refine Bw.drew ?_ | with_reducible refine Bw.drewN ?_ _ | with_reducible refine bw_al ?_ _ | with_reducible refine Bw.then ?_ (by with_reducible assumption)))) rdNil (hsA.after (by (repeat' first | with_reducible exact Below.refl _ _ | with_reducible assumption | with_reducible refine Bw.drew ?_ | with_reducible refine Bw.drewN ?_ _ | with_reducible refine bw_al ?_ _ | with_reducible refine Bw.then ?_ (by with_reducible assumption)))).rd).mono ?_
            intro e wB hr
            rw [Y4] at hr
            obtain ⟨uB, rfl, hbB, huB⟩ : ∃ u, e = .returned (.tuple #[.agg #[.string ⟨#[]⟩, u], .bool false, .int .i64 1]) ∧ Bw _ wB ∧ Sl tRdg wB (Hi _) u [] := hr
            obtain ⟨UB, rB, sB, rfl, _, _, _⟩ := huB.form'
            try dsimp only
            refine hK'.out _ _ ?_ (fun hHeld => ?_)
            · exact KV _ (by (repeat' first | with_reducible exact Below.refl _ _ | with_reducible assumption | with_reducible refine Bw.drew ?_ | with_reducible refine Bw.drewN ?_ _ | with_reducible refine bw_al ?_ _ | with_reducible refine Bw.then ?_ (by with_reducible assumption)))
            clear hK' K'
            try simp only [Act.put, List.setIfInBounds_toArray, List.set_cons_zero, List.set_cons_succ]
            refine wpAnyH_take (i := 3) (oi := { dst := some 60, op := Go.Op.move (Go.Operand.tmp 63), type := 39, pos := "law.go:211", after := #[{ on := 2, ground := Go.Ground.data }], guard := none }) (v := ?v27) rfl (by kernel_rfl) (by kernel_rfl) (by kernel_rfl) (fun _ _ _ h => h) (Or.inl ⟨by rfl, ?hy27⟩) (by assumption) ?_
            case hy27 => (intro w hSw; (try dsimp only at hSw); go_simp; try with_reducible rfl)
            try simp only [Act.put, List.setIfInBounds_toArray, List.set_cons_zero, List.set_cons_succ]
            refine wpAnyH_take (i := 4) (oi := { dst := some 64, op := Go.Op.extract (Go.Operand.tmp 60) 0, type := 37, pos := "law.go:211", after := #[{ on := 3, ground := Go.Ground.data }], guard := none }) (v := ?v28) rfl (by kernel_rfl) (by kernel_rfl) (by kernel_rfl) (fun _ _ _ h => h) (Or.inl ⟨by rfl, ?hy28⟩) (by assumption) ?_
            case hy28 => (intro w hSw; (try dsimp only at hSw); go_simp; try with_reducible rfl)
            try simp only [Act.put, List.setIfInBounds_toArray, List.set_cons_zero, List.set_cons_succ]
            refine wpAnyH_take (i := 5) (oi := { dst := some 65, op := Go.Op.extract (Go.Operand.tmp 60) 1, type := 4, pos := "law.go:211", after := #[{ on := 3, ground := Go.Ground.data }, { on := 8, ground := Go.Ground.gcOnly Go.Departure.lateStores }], guard := none }) (v := ?v29) rfl (by kernel_rfl) (by kernel_rfl) (by kernel_rfl) (fun _ _ _ h => h) (Or.inl ⟨by rfl, ?hy29⟩) (by assumption) ?_
            case hy29 => (intro w hSw; (try dsimp only at hSw); go_simp; try with_reducible rfl)
            try simp only [Act.put, List.setIfInBounds_toArray, List.set_cons_zero, List.set_cons_succ]
            refine wpAnyH_take (i := 6) (oi := { dst := some 66, op := Go.Op.extract (Go.Operand.tmp 60) 2, type := 38, pos := "law.go:211", after := #[{ on := 3, ground := Go.Ground.data }, { on := 9, ground := Go.Ground.gcOnly Go.Departure.lateStores }], guard := none }) (v := ?v30) rfl (by kernel_rfl) (by kernel_rfl) (by kernel_rfl) (fun _ _ _ h => h) (Or.inl ⟨by rfl, ?hy30⟩) (by assumption) ?_
            case hy30 => (intro w hSw; (try dsimp only at hSw); go_simp; try with_reducible rfl)
            try simp only [Act.put, List.setIfInBounds_toArray, List.set_cons_zero, List.set_cons_succ]
            have rz : wB.heap[wA.heap.size]? = some (.cells #[.string ⟨#[]⟩, .slice none 0 0] 37) := row_bw hbB (at_new (o := .cells #[.string ⟨#[]⟩, .slice none 0 0] 37) (by simp))
            have z0 := row2_0 rz
            have z1 := row2_1 rz
            have f0 := frozen_of_cells (i := 0) rz
            have f1 := frozen_of_cells (i := 1) rz
            have hge : w14.heap.size ≤ wA.heap.size := hwA.size
            refine wpAnyH_ready (rs := [8]) (by kernel_rfl) (by simp) ?_
            refine (AllReadyH.cons (i := 8) (o := { dst := none, op := Go.Op.store 37 (Go.Operand.tmp 17) (Go.Operand.tmp 64), type := 0, pos := "law.go:211", after := #[{ on := 7, ground := Go.Ground.data }, { on := 4, ground := Go.Ground.data }, { on := 2, ground := Go.Ground.chain }, { on := 0, ground := Go.Ground.phase }, { on := 1, ground := Go.Ground.phase }, { on := 2, ground := Go.Ground.phase }, { on := 3, ground := Go.Ground.phase }, { on := 4, ground := Go.Ground.phase }, { on := 5, ground := Go.Ground.textOnly Go.Departure.lateStores }, { on := 6, ground := Go.Ground.textOnly Go.Departure.lateStores }, { on := 7, ground := Go.Ground.phase }], guard := none }) rfl (fun K' hK' => ?_) AllReadyH.nil)
            go_simp
            refine hK'.out _ _ ?_ (fun hHeld => ?_)
            · exact KV _ (bw_grown (bw_grown (by (repeat' first | with_reducible exact Below.refl _ _ | with_reducible assumption | with_reducible refine Bw.drew ?_ | with_reducible refine Bw.drewN ?_ _ | with_reducible refine bw_al ?_ _ | with_reducible refine Bw.then ?_ (by with_reducible assumption))) (set_grown _ _ _ _) hge) (set_grown _ _ _ _) hge)
            clear hK' K'
            try simp only [Act.put, List.setIfInBounds_toArray, List.set_cons_zero, List.set_cons_succ]
            refine wpAnyH_take (i := 9) (oi := { dst := some 18, op := Go.Op.assign (Go.Operand.tmp 65), type := 4, pos := "law.go:211", after := #[{ on := 5, ground := Go.Ground.data }, { on := 8, ground := Go.Ground.chain }, { on := 0, ground := Go.Ground.phase }, { on := 1, ground := Go.Ground.phase }, { on := 2, ground := Go.Ground.phase }, { on := 3, ground := Go.Ground.phase }, { on := 4, ground := Go.Ground.phase }, { on := 5, ground := Go.Ground.phase }, { on := 6, ground := Go.Ground.textOnly Go.Departure.lateStores }, { on := 7, ground := Go.Ground.phase }, { on := 8, ground := Go.Ground.phase }], guard := none }) (v := ?v31) rfl (by kernel_rfl) (by kernel_rfl) (by kernel_rfl) (fun _ _ _ h => h) (Or.inl ⟨by rfl, ?hy31⟩) (by assumption) ?_
            case hy31 => (intro w hSw; (try dsimp only at hSw); go_simp; try with_reducible rfl)
            try simp only [Act.put, List.setIfInBounds_toArray, List.set_cons_zero, List.set_cons_succ]
            refine wpAnyH_take (i := 10) (oi := { dst := some 19, op := Go.Op.assign (Go.Operand.tmp 66), type := 38, pos := "law.go:211", after := #[{ on := 6, ground := Go.Ground.data }, { on := 9, ground := Go.Ground.chain }, { on := 0, ground := Go.Ground.phase }, { on := 1, ground := Go.Ground.phase }, { on := 2, ground := Go.Ground.phase }, { on := 3, ground := Go.Ground.phase }, { on := 4, ground := Go.Ground.phase }, { on := 5, ground := Go.Ground.phase }, { on := 6, ground := Go.Ground.phase }, { on := 7, ground := Go.Ground.phase }, { on := 8, ground := Go.Ground.phase }, { on := 9, ground := Go.Ground.phase }], guard := none }) (v := ?v32) rfl (by kernel_rfl) (by kernel_rfl) (by kernel_rfl) (fun _ _ _ h => h) (Or.inl ⟨by rfl, ?hy32⟩) (by assumption) ?_
            case hy32 => (intro w hSw; (try dsimp only at hSw); go_simp; try with_reducible rfl)
            try simp only [Act.put, List.setIfInBounds_toArray, List.set_cons_zero, List.set_cons_succ]
            refine wpAnyH_done (by kernel_rfl) ?_ _
            exact ⟨_, gA, UB, rB, sB, rfl, bw_grown (bw_grown (by (repeat' first | with_reducible exact Below.refl _ _ | with_reducible assumption | with_reducible refine Bw.drew ?_ | with_reducible refine Bw.drewN ?_ _ | with_reducible refine bw_al ?_ _ | with_reducible refine Bw.then ?_ (by with_reducible assumption))) (set_grown _ _ _ _) hge) (set_grown _ _ _ _) hge⟩
        · go_simp
          refine hK'.out _ _ ?_ (fun hHeld => ?_)
          · exact KV _ (by (repeat' first | with_reducible exact Below.refl _ _ | with_reducible assumption | with_reducible refine Bw.drew ?_ | with_reducible refine Bw.drewN ?_ _ | with_reducible refine bw_al ?_ _ | with_reducible refine Bw.then ?_ (by with_reducible assumption)))
          clear hK' K'
          try simp only [Act.put, List.setIfInBounds_toArray, List.set_cons_zero, List.set_cons_succ]
          refine wpAnyH_ready (rs := [1]) (by kernel_rfl) (by simp) ?_
          refine (AllReadyH.cons (i := 1) (o := { dst := some 62, op := Go.Op.call { callee := Go.Callee.value (Go.Operand.func 30), args := #[], argTypes := #[] }, type := 29, pos := "law.go:211", after := #[], guard := none }) rfl (fun K' hK' => ?_) AllReadyH.nil)
          go_simp
          refine saw_any.mono ?_
          rintro e wA ⟨gA, _, _, _, _, _, _, _, _, _, _, _, _, rfl, hbA, _, hsA⟩
          try dsimp only
          refine hK'.out _ _ ?_ (fun hHeld => ?_)
          · exact KV _ (by (repeat' first | with_reducible exact Below.refl _ _ | with_reducible assumption | with_reducible refine Bw.drew ?_ | with_reducible refine Bw.drewN ?_ _ | with_reducible refine bw_al ?_ _ | with_reducible refine Bw.then ?_ (by with_reducible assumption)))
          clear hK' K'
          try simp only [Act.put, List.setIfInBounds_toArray, List.set_cons_zero, List.set_cons_succ]
          refine wpAnyH_ready (rs := [2]) (by kernel_rfl) (by simp) ?_
          refine (AllReadyH.cons (i := 2) (o := { dst := some 63, op := Go.Op.call { callee := Go.Callee.value (Go.Operand.func 18), args := #[Go.Operand.tmp 61, Go.Operand.tmp 62, Go.Operand.const (Go.Value.int Go.IntKind.i64 3)], argTypes := #[34, 29, 3] }, type := 39, pos := "law.go:211", after := #[{ on := 0, ground := Go.Ground.data }, { on := 1, ground := Go.Ground.data }, { on := 1, ground := Go.Ground.chain }], guard := none }) rfl (fun K' hK' => ?_) AllReadyH.nil)
          go_simp
          refine (step_any (r := rUns) (l := sawL) (i := 3) (hTx.after (by (repeat' first | with_reducible exact Below.refl _ _ | with_reducible assumption | with_reducible refine Bw.drew ?_ | with_reducible refine Bw.drewN ?_ _ | with_reducible refine bw_al ?_ _ | with_reducible refine Bw.then ?_ (by with_reducible assumption)))) (hU5.after (by (repeat' first | with_reducible exact Below.refl _ _ | with_reducible assumption | with_reducible refine Bw.drew ?_ | with_reducible refine Bw.drewN ?_ _ | with_reducible refine bw_al ?_ _ | with_reducible refine Bw.then ?_ (by with_reducible assumption)))) rdNil (hsA.after (by (repeat' first | with_reducible exact Below.refl _ _ | with_reducible assumption | with_reducible refine Bw.drew ?_ | with_reducible refine Bw.drewN ?_ _ | with_reducible refine bw_al ?_ _ | with_reducible refine Bw.then ?_ (by with_reducible assumption)))).rd).mono ?_
          intro e wB hr
          rw [Y4] at hr
          obtain ⟨uB, rfl, hbB, huB⟩ : ∃ u, e = .returned (.tuple #[.agg #[.string ⟨#[]⟩, u], .bool false, .int .i64 1]) ∧ Bw _ wB ∧ Sl tRdg wB (Hi _) u [] := hr
          obtain ⟨UB, rB, sB, rfl, _, _, _⟩ := huB.form'
          try dsimp only
          refine hK'.out _ _ ?_ (fun hHeld => ?_)
          · exact KV _ (by (repeat' first | with_reducible exact Below.refl _ _ | with_reducible assumption | with_reducible refine Bw.drew ?_ | with_reducible refine Bw.drewN ?_ _ | with_reducible refine bw_al ?_ _ | with_reducible refine Bw.then ?_ (by with_reducible assumption)))
          clear hK' K'
          try simp only [Act.put, List.setIfInBounds_toArray, List.set_cons_zero, List.set_cons_succ]
          refine wpAnyH_take (i := 3) (oi := { dst := some 60, op := Go.Op.move (Go.Operand.tmp 63), type := 39, pos := "law.go:211", after := #[{ on := 2, ground := Go.Ground.data }], guard := none }) (v := ?v33) rfl (by kernel_rfl) (by kernel_rfl) (by kernel_rfl) (fun _ _ _ h => h) (Or.inl ⟨by rfl, ?hy33⟩) (by assumption) ?_
          case hy33 => (intro w hSw; (try dsimp only at hSw); go_simp; try with_reducible rfl)
          try simp only [Act.put, List.setIfInBounds_toArray, List.set_cons_zero, List.set_cons_succ]
          refine wpAnyH_take (i := 4) (oi := { dst := some 64, op := Go.Op.extract (Go.Operand.tmp 60) 0, type := 37, pos := "law.go:211", after := #[{ on := 3, ground := Go.Ground.data }], guard := none }) (v := ?v34) rfl (by kernel_rfl) (by kernel_rfl) (by kernel_rfl) (fun _ _ _ h => h) (Or.inl ⟨by rfl, ?hy34⟩) (by assumption) ?_
          case hy34 => (intro w hSw; (try dsimp only at hSw); go_simp; try with_reducible rfl)
          try simp only [Act.put, List.setIfInBounds_toArray, List.set_cons_zero, List.set_cons_succ]
          refine wpAnyH_take (i := 5) (oi := { dst := some 65, op := Go.Op.extract (Go.Operand.tmp 60) 1, type := 4, pos := "law.go:211", after := #[{ on := 3, ground := Go.Ground.data }, { on := 8, ground := Go.Ground.gcOnly Go.Departure.lateStores }], guard := none }) (v := ?v35) rfl (by kernel_rfl) (by kernel_rfl) (by kernel_rfl) (fun _ _ _ h => h) (Or.inl ⟨by rfl, ?hy35⟩) (by assumption) ?_
          case hy35 => (intro w hSw; (try dsimp only at hSw); go_simp; try with_reducible rfl)
          try simp only [Act.put, List.setIfInBounds_toArray, List.set_cons_zero, List.set_cons_succ]
          refine wpAnyH_take (i := 6) (oi := { dst := some 66, op := Go.Op.extract (Go.Operand.tmp 60) 2, type := 38, pos := "law.go:211", after := #[{ on := 3, ground := Go.Ground.data }, { on := 9, ground := Go.Ground.gcOnly Go.Departure.lateStores }], guard := none }) (v := ?v36) rfl (by kernel_rfl) (by kernel_rfl) (by kernel_rfl) (fun _ _ _ h => h) (Or.inl ⟨by rfl, ?hy36⟩) (by assumption) ?_
          case hy36 => (intro w hSw; (try dsimp only at hSw); go_simp; try with_reducible rfl)
          try simp only [Act.put, List.setIfInBounds_toArray, List.set_cons_zero, List.set_cons_succ]
          have rz : wB.heap[w14.heap.size]? = some (.cells #[.string ⟨#[]⟩, .slice none 0 0] 37) := row_bw hbB (row_bw hbA (at_new (o := .cells #[.string ⟨#[]⟩, .slice none 0 0] 37) (by simp)))
          have z0 := row2_0 rz
          have z1 := row2_1 rz
          have f0 := frozen_of_cells (i := 0) rz
          have f1 := frozen_of_cells (i := 1) rz
          have hge : w14.heap.size ≤ w14.heap.size := (by omega)
          refine wpAnyH_ready (rs := [8]) (by kernel_rfl) (by simp) ?_
          refine (AllReadyH.cons (i := 8) (o := { dst := none, op := Go.Op.store 37 (Go.Operand.tmp 17) (Go.Operand.tmp 64), type := 0, pos := "law.go:211", after := #[{ on := 7, ground := Go.Ground.data }, { on := 4, ground := Go.Ground.data }, { on := 2, ground := Go.Ground.chain }, { on := 0, ground := Go.Ground.phase }, { on := 1, ground := Go.Ground.phase }, { on := 2, ground := Go.Ground.phase }, { on := 3, ground := Go.Ground.phase }, { on := 4, ground := Go.Ground.phase }, { on := 5, ground := Go.Ground.textOnly Go.Departure.lateStores }, { on := 6, ground := Go.Ground.textOnly Go.Departure.lateStores }, { on := 7, ground := Go.Ground.phase }], guard := none }) rfl (fun K' hK' => ?_) AllReadyH.nil)
          go_simp
          refine hK'.out _ _ ?_ (fun hHeld => ?_)
          · exact KV _ (bw_grown (bw_grown (by (repeat' first | with_reducible exact Below.refl _ _ | with_reducible assumption | with_reducible refine Bw.drew ?_ | with_reducible refine Bw.drewN ?_ _ | with_reducible refine bw_al ?_ _ | with_reducible refine Bw.then ?_ (by with_reducible assumption))) (set_grown _ _ _ _) hge) (set_grown _ _ _ _) hge)
          clear hK' K'
          try simp only [Act.put, List.setIfInBounds_toArray, List.set_cons_zero, List.set_cons_succ]
          refine wpAnyH_take (i := 9) (oi := { dst := some 18, op := Go.Op.assign (Go.Operand.tmp 65), type := 4, pos := "law.go:211", after := #[{ on := 5, ground := Go.Ground.data }, { on := 8, ground := Go.Ground.chain }, { on := 0, ground := Go.Ground.phase }, { on := 1, ground := Go.Ground.phase }, { on := 2, ground := Go.Ground.phase }, { on := 3, ground := Go.Ground.phase }, { on := 4, ground := Go.Ground.phase }, { on := 5, ground := Go.Ground.phase }, { on := 6, ground := Go.Ground.textOnly Go.Departure.lateStores }, { on := 7, ground := Go.Ground.phase }, { on := 8, ground := Go.Ground.phase }], guard := none }) (v := ?v37) rfl (by kernel_rfl) (by kernel_rfl) (by kernel_rfl) (fun _ _ _ h => h) (Or.inl ⟨by rfl, ?hy37⟩) (by assumption) ?_
          case hy37 => (intro w hSw; (try dsimp only at hSw); go_simp; try with_reducible rfl)
          try simp only [Act.put, List.setIfInBounds_toArray, List.set_cons_zero, List.set_cons_succ]
          refine wpAnyH_take (i := 10) (oi := { dst := some 19, op := Go.Op.assign (Go.Operand.tmp 66), type := 38, pos := "law.go:211", after := #[{ on := 6, ground := Go.Ground.data }, { on := 9, ground := Go.Ground.chain }, { on := 0, ground := Go.Ground.phase }, { on := 1, ground := Go.Ground.phase }, { on := 2, ground := Go.Ground.phase }, { on := 3, ground := Go.Ground.phase }, { on := 4, ground := Go.Ground.phase }, { on := 5, ground := Go.Ground.phase }, { on := 6, ground := Go.Ground.phase }, { on := 7, ground := Go.Ground.phase }, { on := 8, ground := Go.Ground.phase }, { on := 9, ground := Go.Ground.phase }], guard := none }) (v := ?v38) rfl (by kernel_rfl) (by kernel_rfl) (by kernel_rfl) (fun _ _ _ h => h) (Or.inl ⟨by rfl, ?hy38⟩) (by assumption) ?_
          case hy38 => (intro w hSw; (try dsimp only at hSw); go_simp; try with_reducible rfl)
          try simp only [Act.put, List.setIfInBounds_toArray, List.set_cons_zero, List.set_cons_succ]
          refine wpAnyH_done (by kernel_rfl) ?_ _
          exact ⟨_, gA, UB, rB, sB, rfl, bw_grown (bw_grown (by (repeat' first | with_reducible exact Below.refl _ _ | with_reducible assumption | with_reducible refine Bw.drew ?_ | with_reducible refine Bw.drewN ?_ _ | with_reducible refine bw_al ?_ _ | with_reducible refine Bw.then ?_ (by with_reducible assumption))) (set_grown _ _ _ _) hge) (set_grown _ _ _ _) hge⟩
      as_aux_lemma =>
        have he : e = .normal := by cases e <;> first | rfl | exact h.elim
        subst he
        obtain ⟨gz, gy, U15, n15, c15, rfl, k16⟩ := h
        have kk := (k14.then k15).then k16
        have hTy := hTx.after k16
        have y3 : w15.heap[w3.heap.size]? = some (.cells #[.slice P3 p3 q3] 24) := row_bw (Bw.then ((((((((k5.then k6).then k7).then k8).then k9).then k10).then k11).then k12).then k13) kk) rb1
        have y1 := row_bw (Bw.then (((((((((k4.then k5).then k6).then k7).then k8).then k9).then k10).then k11).then k12).then k13) kk) rn1
        have y2 := row_bw (Bw.then (((((((((k4.then k5).then k6).then k7).then k8).then k9).then k10).then k11).then k12).then k13) kk) rc1
        have y5 := row_bw (Bw.then ((((k9.then k10).then k11).then k12).then k13) kk) rx7
        have y8 := row_bw (Bw.then (k12.then k13) kk) rx10
        have y11 := row_bw (k15.then k16) rx13
        have y14 := row_bw k16 rx14
        have d3 := tn.after (Bw.then (((((((((k4.then k5).then k6).then k7).then k8).then k9).then k10).then k11).then k12).then k13) kk)
        have d1 := t1.after (Bw.then (((((((((k4.then k5).then k6).then k7).then k8).then k9).then k10).then k11).then k12).then k13) kk)
        have d2 := t2.after (Bw.then (((((((((k4.then k5).then k6).then k7).then k8).then k9).then k10).then k11).then k12).then k13) kk)
        have d5 := hu7.rd.after (Bw.then (((((k8.then k9).then k10).then k11).then k12).then k13) kk)
        have d8 := hu10.rd.after (Bw.then ((k11.then k12).then k13) kk)
        have d11 := hu13.rd.after kk
        have d14 := hu14.after k16
        have hbase : Hid (Bw w w15) := Bw.then ((((((((((k3.then k4).then k5).then k6).then k7).then k8).then k9).then k10).then k11).then k12).then k13) kk
        go_wp2_with fail
        as_aux_lemma =>
          have K0 : ∀ w', Bw w15 w' → ((w'.cell? ⟨w3.heap.size, 0, none⟩ = some (.slice P3 p3 q3)) ∧ (w'.cell? ⟨w2.heap.size, 0, none⟩ = some (.int .i64 (-1)) ∧ w'.cell? ⟨w2.heap.size, 1, none⟩ = some (.bool false) ∧ w'.cell? ⟨w2.heap.size, 2, none⟩ = some (.bool true) ∧ w'.cell? ⟨w2.heap.size, 3, none⟩ = some (.bool false) ∧ w'.cell? ⟨w2.heap.size, 4, none⟩ = some (.slice A1 n1 c1) ∧ w'.cell? ⟨w2.heap.size, 5, none⟩ = some (.slice none 0 0)) ∧ (w'.cell? ⟨w2.heap.size + 1, 0, none⟩ = some (.int .i64 0) ∧ w'.cell? ⟨w2.heap.size + 1, 1, none⟩ = some (.bool false) ∧ w'.cell? ⟨w2.heap.size + 1, 2, none⟩ = some (.bool false) ∧ w'.cell? ⟨w2.heap.size + 1, 3, none⟩ = some (.bool true) ∧ w'.cell? ⟨w2.heap.size + 1, 4, none⟩ = some (.slice A2 n2 c2) ∧ w'.cell? ⟨w2.heap.size + 1, 5, none⟩ = some (.slice none 0 0)) ∧ (w'.cell? ⟨w7.heap.size, 0, none⟩ = some (.string cVP.1) ∧ w'.cell? ⟨w7.heap.size, 1, none⟩ = some (.slice U7 r7 s7)) ∧ (w'.cell? ⟨w10.heap.size, 0, none⟩ = some (.string cSaw.1) ∧ w'.cell? ⟨w10.heap.size, 1, none⟩ = some (.slice U10 r10 s10)) ∧ (w'.cell? ⟨w13.heap.size, 0, none⟩ = some (.string cThe.1) ∧ w'.cell? ⟨w13.heap.size, 1, none⟩ = some (.slice U13 r13 s13)) ∧ (w'.cell? ⟨gb, 0, none⟩ = some (.string cNo.1) ∧ w'.cell? ⟨gb, 1, none⟩ = some (.slice U14 n14 c14))) := fun w' kk => ⟨bw_cell kk (by rw [cell_of_row _ _ 0 _ _ _ y3]; rfl), box6 y1 kk, box6 y2 kk, ⟨row2_0 (row_bw kk y5), row2_1 (row_bw kk y5)⟩, ⟨row2_0 (row_bw kk y8), row2_1 (row_bw kk y8)⟩, ⟨row2_0 (row_bw kk y11), row2_1 (row_bw kk y11)⟩, ⟨row2_0 (row_bw kk y14), row2_1 (row_bw kk y14)⟩⟩
          clear y3 y1 y2 y5 y8 y11 y14 KU KV hU4 hU5 hTw hTw' hTx k14 k15 k16 kk k3 k4 k5 k6 k7 k8 k9 k10 k11 k12 k13 hT tn t1 t2 hu4 hu5 hu7 hu8 hu10 hu11 hu13 hu14 rb1 rn1 rc1 rx7 rx10 rx13 rx14 rU ru1 hl6 hl9 hl12 hc31 hc32
          refine wp_region_held_drew (S := fun w' => (w'.cell? ⟨w3.heap.size, 0, none⟩ = some (.slice P3 p3 q3)) ∧ (w'.cell? ⟨w2.heap.size, 0, none⟩ = some (.int .i64 (-1)) ∧ w'.cell? ⟨w2.heap.size, 1, none⟩ = some (.bool false) ∧ w'.cell? ⟨w2.heap.size, 2, none⟩ = some (.bool true) ∧ w'.cell? ⟨w2.heap.size, 3, none⟩ = some (.bool false) ∧ w'.cell? ⟨w2.heap.size, 4, none⟩ = some (.slice A1 n1 c1) ∧ w'.cell? ⟨w2.heap.size, 5, none⟩ = some (.slice none 0 0)) ∧ (w'.cell? ⟨w2.heap.size + 1, 0, none⟩ = some (.int .i64 0) ∧ w'.cell? ⟨w2.heap.size + 1, 1, none⟩ = some (.bool false) ∧ w'.cell? ⟨w2.heap.size + 1, 2, none⟩ = some (.bool false) ∧ w'.cell? ⟨w2.heap.size + 1, 3, none⟩ = some (.bool true) ∧ w'.cell? ⟨w2.heap.size + 1, 4, none⟩ = some (.slice A2 n2 c2) ∧ w'.cell? ⟨w2.heap.size + 1, 5, none⟩ = some (.slice none 0 0)) ∧ (w'.cell? ⟨w7.heap.size, 0, none⟩ = some (.string cVP.1) ∧ w'.cell? ⟨w7.heap.size, 1, none⟩ = some (.slice U7 r7 s7)) ∧ (w'.cell? ⟨w10.heap.size, 0, none⟩ = some (.string cSaw.1) ∧ w'.cell? ⟨w10.heap.size, 1, none⟩ = some (.slice U10 r10 s10)) ∧ (w'.cell? ⟨w13.heap.size, 0, none⟩ = some (.string cThe.1) ∧ w'.cell? ⟨w13.heap.size, 1, none⟩ = some (.slice U13 r13 s13)) ∧ (w'.cell? ⟨gb, 0, none⟩ = some (.string cNo.1) ∧ w'.cell? ⟨gb, 1, none⟩ = some (.slice U14 n14 c14))) (by kernel_rfl) ?_ (fun hHeld => ?_)
          · exact K0 _ (by (repeat' first | with_reducible exact Below.refl _ _ | with_reducible assumption | with_reducible refine Bw.drew ?_ | with_reducible refine Bw.drewN ?_ _ | with_reducible refine bw_al ?_ _ | with_reducible refine Bw.then ?_ (by with_reducible assumption)))
          refine wpAnyH_take (i := 0) (oi := { dst := some 67, op := Go.Op.load 24 (Go.Operand.tmp 3), type := 24, pos := "law.go:212", after := #[], guard := none }) (v := ?v39) rfl (by kernel_rfl) (by kernel_rfl) (by kernel_rfl) (fun _ _ _ h => h) (Or.inl ⟨by rfl, ?hy39⟩) (by assumption) ?_
          case hy39 => (intro w hSw; (try dsimp only at hSw); go_simp; try with_reducible rfl)
          try simp only [Act.put, List.setIfInBounds_toArray, List.set_cons_zero, List.set_cons_succ]
          as_aux_lemma =>
            refine wpAnyH_ready (rs := [1]) (by kernel_rfl) (by simp) ?_
            refine (AllReadyH.cons (i := 1) (o := { dst := some 68, op := Go.Op.call { callee := Go.Callee.value (Go.Operand.func 13), args := #[Go.Operand.tmp 67, Go.Operand.const (Go.Value.slice none 0 0)], argTypes := #[24, 22] }, type := 4, pos := "law.go:212", after := #[{ on := 0, ground := Go.Ground.data }], guard := none }) rfl (fun K' hK' => ?_) AllReadyH.nil)
            go_simp
            refine (val_of (congrArg Value.bool Z0) (has_any (d3.after (by (repeat' first | with_reducible exact Below.refl _ _ | with_reducible assumption | with_reducible refine Bw.drew ?_ | with_reducible refine Bw.drewN ?_ _ | with_reducible refine bw_al ?_ _ | with_reducible refine Bw.then ?_ (by with_reducible assumption)))) rdNil)).mono ?_
            rintro e wR1 ⟨rfl, hbR1⟩
            try dsimp only
            refine hK'.out _ _ ?_ (fun hHeld => ?_)
            · exact K0 _ (by (repeat' first | with_reducible exact Below.refl _ _ | with_reducible assumption | with_reducible refine Bw.drew ?_ | with_reducible refine Bw.drewN ?_ _ | with_reducible refine bw_al ?_ _ | with_reducible refine Bw.then ?_ (by with_reducible assumption)))
            clear hK' K'
            try simp only [Act.put, List.setIfInBounds_toArray, List.set_cons_zero, List.set_cons_succ]
            refine wpAnyH_take (i := 2) (oi := { dst := some 69, op := Go.Op.move (Go.Operand.tmp 68), type := 4, pos := "law.go:212", after := #[{ on := 1, ground := Go.Ground.data }, { on := 1, ground := Go.Ground.chain }], guard := none }) (v := ?v40) rfl (by kernel_rfl) (by kernel_rfl) (by kernel_rfl) (fun _ _ _ h => h) (Or.inl ⟨by rfl, ?hy40⟩) (by assumption) ?_
            case hy40 => (intro w hSw; (try dsimp only at hSw); go_simp; try with_reducible rfl)
            try simp only [Act.put, List.setIfInBounds_toArray, List.set_cons_zero, List.set_cons_succ]
            refine wpAnyH_take (i := 3) (oi := { dst := some 70, op := Go.Op.load 24 (Go.Operand.tmp 3), type := 24, pos := "law.go:212", after := #[{ on := 2, ground := Go.Ground.guard }], guard := some (2, true) }) (v := ?v41) rfl (by kernel_rfl) (by kernel_rfl) (by kernel_rfl) (fun _ _ _ h => h) (Or.inl ⟨by rfl, ?hy41⟩) (by assumption) ?_
            case hy41 => (intro w hSw; (try dsimp only at hSw); go_simp; try with_reducible rfl)
            try simp only [Act.put, List.setIfInBounds_toArray, List.set_cons_zero, List.set_cons_succ]
            refine wpAnyH_ready (rs := [4]) (by kernel_rfl) (by simp) ?_
            refine (AllReadyH.cons (i := 4) (o := { dst := some 71, op := Go.Op.buildSlice 22 2 #[(0, Go.Operand.const (Go.Value.string { data := #[78] })), (1, Go.Operand.const (Go.Value.string { data := #[80, 108] }))], type := 22, pos := "law.go:212", after := #[{ on := 2, ground := Go.Ground.guard }], guard := some (2, true) }) rfl (fun K' hK' => ?_) AllReadyH.nil)
            go_simp
            refine hK'.out _ _ ?_ (fun hHeld => ?_)
            · exact K0 _ (by (repeat' first | with_reducible exact Below.refl _ _ | with_reducible assumption | with_reducible refine Bw.drew ?_ | with_reducible refine Bw.drewN ?_ _ | with_reducible refine bw_al ?_ _ | with_reducible refine Bw.then ?_ (by with_reducible assumption)))
            clear hK' K'
            try simp only [Act.put, List.setIfInBounds_toArray, List.set_cons_zero, List.set_cons_succ]
            as_aux_lemma =>
              refine wpAnyH_ready (rs := [5]) (by kernel_rfl) (by simp) ?_
              refine (AllReadyH.cons (i := 5) (o := { dst := some 72, op := Go.Op.call { callee := Go.Callee.value (Go.Operand.func 13), args := #[Go.Operand.tmp 70, Go.Operand.tmp 71], argTypes := #[24, 22] }, type := 4, pos := "law.go:212", after := #[{ on := 3, ground := Go.Ground.data }, { on := 4, ground := Go.Ground.data }, { on := 2, ground := Go.Ground.chain }, { on := 2, ground := Go.Ground.guard }], guard := some (2, true) }) rfl (fun K' hK' => ?_) AllReadyH.nil)
              go_simp
              refine (val_of (congrArg Value.bool Z1) (has_any (d3.after (by (repeat' first | with_reducible exact Below.refl _ _ | with_reducible assumption | with_reducible refine Bw.drew ?_ | with_reducible refine Bw.drewN ?_ _ | with_reducible refine bw_al ?_ _ | with_reducible refine Bw.then ?_ (by with_reducible assumption)))) (lit2 (x := sN) (y := sPl) (at_new rfl) (by decide) (by decide)))).mono ?_
              rintro e wR5 ⟨rfl, hbR5⟩
              try dsimp only
              refine hK'.out _ _ ?_ (fun hHeld => ?_)
              · exact K0 _ (by (repeat' first | with_reducible exact Below.refl _ _ | with_reducible assumption | with_reducible refine Bw.drew ?_ | with_reducible refine Bw.drewN ?_ _ | with_reducible refine bw_al ?_ _ | with_reducible refine Bw.then ?_ (by with_reducible assumption)))
              clear hK' K'
              try simp only [Act.put, List.setIfInBounds_toArray, List.set_cons_zero, List.set_cons_succ]
              as_aux_lemma =>
                refine wpAnyH_take (i := 6) (oi := { dst := some 73, op := Go.Op.unOp Go.UnOp.not 4 (Go.Operand.tmp 72), type := 4, pos := "law.go:212", after := #[{ on := 5, ground := Go.Ground.data }, { on := 2, ground := Go.Ground.guard }], guard := some (2, true) }) (v := ?v42) rfl (by kernel_rfl) (by kernel_rfl) (by kernel_rfl) (fun _ _ _ h => h) (Or.inl ⟨by rfl, ?hy42⟩) (by assumption) ?_
                case hy42 => (intro w hSw; (try dsimp only at hSw); go_simp; try with_reducible rfl)
                try simp only [Act.put, List.setIfInBounds_toArray, List.set_cons_zero, List.set_cons_succ]
                refine wpAnyH_take (i := 7) (oi := { dst := some 74, op := Go.Op.pick (Go.Operand.tmp 69) (Go.Operand.tmp 73) (Go.Operand.const (Go.Value.bool false)), type := 4, pos := "law.go:212", after := #[{ on := 2, ground := Go.Ground.data }, { on := 6, ground := Go.Ground.data }], guard := none }) (v := ?v43) rfl (by kernel_rfl) (by kernel_rfl) (by kernel_rfl) (fun _ _ _ h => h) (Or.inl ⟨by rfl, ?hy43⟩) (by assumption) ?_
                case hy43 => (intro w hSw; (try dsimp only at hSw); go_simp; try with_reducible rfl)
                try simp only [Act.put, List.setIfInBounds_toArray, List.set_cons_zero, List.set_cons_succ]
                refine wpAnyH_take (i := 8) (oi := { dst := some 75, op := Go.Op.move (Go.Operand.tmp 74), type := 4, pos := "law.go:212", after := #[{ on := 7, ground := Go.Ground.data }, { on := 5, ground := Go.Ground.chain }], guard := none }) (v := ?v44) rfl (by kernel_rfl) (by kernel_rfl) (by kernel_rfl) (fun _ _ _ h => h) (Or.inl ⟨by rfl, ?hy44⟩) (by assumption) ?_
                case hy44 => (intro w hSw; (try dsimp only at hSw); go_simp; try with_reducible rfl)
                try simp only [Act.put, List.setIfInBounds_toArray, List.set_cons_zero, List.set_cons_succ]
                refine wpAnyH_take (i := 9) (oi := { dst := some 76, op := Go.Op.load 28 (Go.Operand.tmp 1), type := 28, pos := "law.go:212", after := #[{ on := 8, ground := Go.Ground.guard }], guard := some (8, true) }) (v := ?v45) rfl (by kernel_rfl) (by kernel_rfl) (by kernel_rfl) (fun _ _ _ h => h) (Or.inl ⟨by rfl, ?hy45⟩) (by assumption) ?_
                case hy45 => (intro w hSw; (try dsimp only at hSw); go_simp; try with_reducible rfl)
                try simp only [Act.put, List.setIfInBounds_toArray, List.set_cons_zero, List.set_cons_succ]
                refine wpAnyH_ready (rs := [10]) (by kernel_rfl) (by simp) ?_
                refine (AllReadyH.cons (i := 10) (o := { dst := some 77, op := Go.Op.call { callee := Go.Callee.value (Go.Operand.func 30), args := #[], argTypes := #[] }, type := 29, pos := "law.go:212", after := #[{ on := 8, ground := Go.Ground.chain }, { on := 8, ground := Go.Ground.guard }], guard := some (8, true) }) rfl (fun K' hK' => ?_) AllReadyH.nil)
                go_simp
                refine saw_any.mono ?_
                rintro e wR10 ⟨gR10, AR10, nR10, cR10, bR10, oR10, ccR10, A3R10, n3R10, c3R10, PR10, mR10, qR10, rfl, hbR10, hgR10, hsR10⟩
                try dsimp only
                refine hK'.out _ _ ?_ (fun hHeld => ?_)
                · exact K0 _ (by (repeat' first | with_reducible exact Below.refl _ _ | with_reducible assumption | with_reducible refine Bw.drew ?_ | with_reducible refine Bw.drewN ?_ _ | with_reducible refine bw_al ?_ _ | with_reducible refine Bw.then ?_ (by with_reducible assumption)))
                clear hK' K'
                try simp only [Act.put, List.setIfInBounds_toArray, List.set_cons_zero, List.set_cons_succ]
                as_aux_lemma =>
                  refine wpAnyH_ready (rs := [11]) (by kernel_rfl) (by simp) ?_
                  refine (AllReadyH.cons (i := 11) (o := { dst := some 78, op := Go.Op.call { callee := Go.Callee.value (Go.Operand.func 16), args := #[Go.Operand.tmp 76, Go.Operand.tmp 77, Go.Operand.const (Go.Value.int Go.IntKind.i64 1)], argTypes := #[28, 29, 3] }, type := 4, pos := "law.go:212", after := #[{ on := 9, ground := Go.Ground.data }, { on := 10, ground := Go.Ground.data }, { on := 10, ground := Go.Ground.chain }, { on := 8, ground := Go.Ground.guard }], guard := some (8, true) }) rfl (fun K' hK' => ?_) AllReadyH.nil)
                  go_simp
                  refine (val_of (congrArg Value.bool Z2) (pHolds_any (t := tNot) (l := sawL) (i := 1) (hTy.after (by (repeat' first | with_reducible exact Below.refl _ _ | with_reducible assumption | with_reducible refine Bw.drew ?_ | with_reducible refine Bw.drewN ?_ _ | with_reducible refine bw_al ?_ _ | with_reducible refine Bw.then ?_ (by with_reducible assumption)))) ⟨by decide, by decide⟩ (d1.after (by (repeat' first | with_reducible exact Below.refl _ _ | with_reducible assumption | with_reducible refine Bw.drew ?_ | with_reducible refine Bw.drewN ?_ _ | with_reducible refine bw_al ?_ _ | with_reducible refine Bw.then ?_ (by with_reducible assumption)))) rdNil (hsR10.after (by (repeat' first | with_reducible exact Below.refl _ _ | with_reducible assumption | with_reducible refine Bw.drew ?_ | with_reducible refine Bw.drewN ?_ _ | with_reducible refine bw_al ?_ _ | with_reducible refine Bw.then ?_ (by with_reducible assumption)))).rd)).mono ?_
                  rintro e wR11 ⟨rfl, hbR11⟩
                  try dsimp only
                  refine hK'.out _ _ ?_ (fun hHeld => ?_)
                  · exact K0 _ (by (repeat' first | with_reducible exact Below.refl _ _ | with_reducible assumption | with_reducible refine Bw.drew ?_ | with_reducible refine Bw.drewN ?_ _ | with_reducible refine bw_al ?_ _ | with_reducible refine Bw.then ?_ (by with_reducible assumption)))
                  clear hK' K'
                  try simp only [Act.put, List.setIfInBounds_toArray, List.set_cons_zero, List.set_cons_succ]
                  as_aux_lemma =>
                    refine wpAnyH_take (i := 12) (oi := { dst := some 79, op := Go.Op.unOp Go.UnOp.not 4 (Go.Operand.tmp 78), type := 4, pos := "law.go:212", after := #[{ on := 11, ground := Go.Ground.data }, { on := 8, ground := Go.Ground.guard }], guard := some (8, true) }) (v := ?v46) rfl (by kernel_rfl) (by kernel_rfl) (by kernel_rfl) (fun _ _ _ h => h) (Or.inl ⟨by rfl, ?hy46⟩) (by assumption) ?_
                    case hy46 => (intro w hSw; (try dsimp only at hSw); go_simp; try with_reducible rfl)
                    try simp only [Act.put, List.setIfInBounds_toArray, List.set_cons_zero, List.set_cons_succ]
                    refine wpAnyH_take (i := 13) (oi := { dst := some 80, op := Go.Op.pick (Go.Operand.tmp 75) (Go.Operand.tmp 79) (Go.Operand.const (Go.Value.bool false)), type := 4, pos := "law.go:212", after := #[{ on := 8, ground := Go.Ground.data }, { on := 12, ground := Go.Ground.data }], guard := none }) (v := ?v47) rfl (by kernel_rfl) (by kernel_rfl) (by kernel_rfl) (fun _ _ _ h => h) (Or.inl ⟨by rfl, ?hy47⟩) (by assumption) ?_
                    case hy47 => (intro w hSw; (try dsimp only at hSw); go_simp; try with_reducible rfl)
                    try simp only [Act.put, List.setIfInBounds_toArray, List.set_cons_zero, List.set_cons_succ]
                    refine wpAnyH_take (i := 14) (oi := { dst := some 81, op := Go.Op.move (Go.Operand.tmp 80), type := 4, pos := "law.go:212", after := #[{ on := 13, ground := Go.Ground.data }, { on := 11, ground := Go.Ground.chain }], guard := none }) (v := ?v48) rfl (by kernel_rfl) (by kernel_rfl) (by kernel_rfl) (fun _ _ _ h => h) (Or.inl ⟨by rfl, ?hy48⟩) (by assumption) ?_
                    case hy48 => (intro w hSw; (try dsimp only at hSw); go_simp; try with_reducible rfl)
                    try simp only [Act.put, List.setIfInBounds_toArray, List.set_cons_zero, List.set_cons_succ]
                    refine wpAnyH_take (i := 15) (oi := { dst := some 82, op := Go.Op.load 28 (Go.Operand.tmp 2), type := 28, pos := "law.go:212", after := #[{ on := 14, ground := Go.Ground.guard }], guard := some (14, true) }) (v := ?v49) rfl (by kernel_rfl) (by kernel_rfl) (by kernel_rfl) (fun _ _ _ h => h) (Or.inl ⟨by rfl, ?hy49⟩) (by assumption) ?_
                    case hy49 => (intro w hSw; (try dsimp only at hSw); go_simp; try with_reducible rfl)
                    try simp only [Act.put, List.setIfInBounds_toArray, List.set_cons_zero, List.set_cons_succ]
                    refine wpAnyH_ready (rs := [16]) (by kernel_rfl) (by simp) ?_
                    refine (AllReadyH.cons (i := 16) (o := { dst := some 83, op := Go.Op.call { callee := Go.Callee.value (Go.Operand.func 30), args := #[], argTypes := #[] }, type := 29, pos := "law.go:212", after := #[{ on := 14, ground := Go.Ground.chain }, { on := 14, ground := Go.Ground.guard }], guard := some (14, true) }) rfl (fun K' hK' => ?_) AllReadyH.nil)
                    go_simp
                    refine saw_any.mono ?_
                    rintro e wR16 ⟨gR16, AR16, nR16, cR16, bR16, oR16, ccR16, A3R16, n3R16, c3R16, PR16, mR16, qR16, rfl, hbR16, hgR16, hsR16⟩
                    try dsimp only
                    refine hK'.out _ _ ?_ (fun hHeld => ?_)
                    · exact K0 _ (by (repeat' first | with_reducible exact Below.refl _ _ | with_reducible assumption | with_reducible refine Bw.drew ?_ | with_reducible refine Bw.drewN ?_ _ | with_reducible refine bw_al ?_ _ | with_reducible refine Bw.then ?_ (by with_reducible assumption)))
                    clear hK' K'
                    try simp only [Act.put, List.setIfInBounds_toArray, List.set_cons_zero, List.set_cons_succ]
                    as_aux_lemma =>
                      refine wpAnyH_ready (rs := [17]) (by kernel_rfl) (by simp) ?_
                      refine (AllReadyH.cons (i := 17) (o := { dst := some 84, op := Go.Op.call { callee := Go.Callee.value (Go.Operand.func 16), args := #[Go.Operand.tmp 82, Go.Operand.tmp 83, Go.Operand.const (Go.Value.int Go.IntKind.i64 1)], argTypes := #[28, 29, 3] }, type := 4, pos := "law.go:212", after := #[{ on := 15, ground := Go.Ground.data }, { on := 16, ground := Go.Ground.data }, { on := 16, ground := Go.Ground.chain }, { on := 14, ground := Go.Ground.guard }], guard := some (14, true) }) rfl (fun K' hK' => ?_) AllReadyH.nil)
                      go_simp
                      refine (val_of (congrArg Value.bool Z3) (pHolds_any (t := tCar) (l := sawL) (i := 1) (hTy.after (by (repeat' first | with_reducible exact Below.refl _ _ | with_reducible assumption | with_reducible refine Bw.drew ?_ | with_reducible refine Bw.drewN ?_ _ | with_reducible refine bw_al ?_ _ | with_reducible refine Bw.then ?_ (by with_reducible assumption)))) ⟨by decide, by decide⟩ (d2.after (by (repeat' first | with_reducible exact Below.refl _ _ | with_reducible assumption | with_reducible refine Bw.drew ?_ | with_reducible refine Bw.drewN ?_ _ | with_reducible refine bw_al ?_ _ | with_reducible refine Bw.then ?_ (by with_reducible assumption)))) rdNil (hsR16.after (by (repeat' first | with_reducible exact Below.refl _ _ | with_reducible assumption | with_reducible refine Bw.drew ?_ | with_reducible refine Bw.drewN ?_ _ | with_reducible refine bw_al ?_ _ | with_reducible refine Bw.then ?_ (by with_reducible assumption)))).rd)).mono ?_
                      rintro e wR17 ⟨rfl, hbR17⟩
                      try dsimp only
                      refine hK'.out _ _ ?_ (fun hHeld => ?_)
                      · exact K0 _ (by (repeat' first | with_reducible exact Below.refl _ _ | with_reducible assumption | with_reducible refine Bw.drew ?_ | with_reducible refine Bw.drewN ?_ _ | with_reducible refine bw_al ?_ _ | with_reducible refine Bw.then ?_ (by with_reducible assumption)))
                      clear hK' K'
                      try simp only [Act.put, List.setIfInBounds_toArray, List.set_cons_zero, List.set_cons_succ]
                      as_aux_lemma =>
                        refine wpAnyH_take (i := 18) (oi := { dst := some 85, op := Go.Op.unOp Go.UnOp.not 4 (Go.Operand.tmp 84), type := 4, pos := "law.go:212", after := #[{ on := 17, ground := Go.Ground.data }, { on := 14, ground := Go.Ground.guard }], guard := some (14, true) }) (v := ?v50) rfl (by kernel_rfl) (by kernel_rfl) (by kernel_rfl) (fun _ _ _ h => h) (Or.inl ⟨by rfl, ?hy50⟩) (by assumption) ?_
                        case hy50 => (intro w hSw; (try dsimp only at hSw); go_simp; try with_reducible rfl)
                        try simp only [Act.put, List.setIfInBounds_toArray, List.set_cons_zero, List.set_cons_succ]
                        refine wpAnyH_take (i := 19) (oi := { dst := some 86, op := Go.Op.pick (Go.Operand.tmp 81) (Go.Operand.tmp 85) (Go.Operand.const (Go.Value.bool false)), type := 4, pos := "law.go:212", after := #[{ on := 14, ground := Go.Ground.data }, { on := 18, ground := Go.Ground.data }], guard := none }) (v := ?v51) rfl (by kernel_rfl) (by kernel_rfl) (by kernel_rfl) (fun _ _ _ h => h) (Or.inl ⟨by rfl, ?hy51⟩) (by assumption) ?_
                        case hy51 => (intro w hSw; (try dsimp only at hSw); go_simp; try with_reducible rfl)
                        try simp only [Act.put, List.setIfInBounds_toArray, List.set_cons_zero, List.set_cons_succ]
                        refine wpAnyH_take (i := 20) (oi := { dst := some 87, op := Go.Op.move (Go.Operand.tmp 86), type := 4, pos := "law.go:212", after := #[{ on := 19, ground := Go.Ground.data }, { on := 17, ground := Go.Ground.chain }], guard := none }) (v := ?v52) rfl (by kernel_rfl) (by kernel_rfl) (by kernel_rfl) (fun _ _ _ h => h) (Or.inl ⟨by rfl, ?hy52⟩) (by assumption) ?_
                        case hy52 => (intro w hSw; (try dsimp only at hSw); go_simp; try with_reducible rfl)
                        try simp only [Act.put, List.setIfInBounds_toArray, List.set_cons_zero, List.set_cons_succ]
                        refine wpAnyH_ready (rs := [21]) (by kernel_rfl) (by simp) ?_
                        refine (AllReadyH.cons (i := 21) (o := { dst := some 88, op := Go.Op.call { callee := Go.Callee.value (Go.Operand.func 29), args := #[Go.Operand.const (Go.Value.int Go.IntKind.i64 0), Go.Operand.const (Go.Value.string { data := #[78] })], argTypes := #[3, 9] }, type := 28, pos := "law.go:212", after := #[{ on := 20, ground := Go.Ground.chain }, { on := 20, ground := Go.Ground.guard }], guard := some (20, true) }) rfl (fun K' hK' => ?_) AllReadyH.nil)
                        go_simp
                        refine (test_any (a := 0) (tag := sN) (by decide)).mono ?_
                        rintro e wR21 ⟨uR21, rfl, hbR21, huR21⟩
                        obtain ⟨TR21, tn21, tc21, rfl, _, _, _⟩ := huR21.form'
                        try dsimp only
                        refine hK'.out _ _ ?_ (fun hHeld => ?_)
                        · exact K0 _ (by (repeat' first | with_reducible exact Below.refl _ _ | with_reducible assumption | with_reducible refine Bw.drew ?_ | with_reducible refine Bw.drewN ?_ _ | with_reducible refine bw_al ?_ _ | with_reducible refine Bw.then ?_ (by with_reducible assumption)))
                        clear hK' K'
                        try simp only [Act.put, List.setIfInBounds_toArray, List.set_cons_zero, List.set_cons_succ]
                        refine wpAnyH_ready (rs := [22]) (by kernel_rfl) (by simp) ?_
                        refine (AllReadyH.cons (i := 22) (o := { dst := some 89, op := Go.Op.call { callee := Go.Callee.value (Go.Operand.func 30), args := #[], argTypes := #[] }, type := 29, pos := "law.go:212", after := #[{ on := 21, ground := Go.Ground.chain }, { on := 20, ground := Go.Ground.guard }], guard := some (20, true) }) rfl (fun K' hK' => ?_) AllReadyH.nil)
                        go_simp
                        refine saw_any.mono ?_
                        rintro e wR22 ⟨gR22, AR22, nR22, cR22, bR22, oR22, ccR22, A3R22, n3R22, c3R22, PR22, mR22, qR22, rfl, hbR22, hgR22, hsR22⟩
                        try dsimp only
                        refine hK'.out _ _ ?_ (fun hHeld => ?_)
                        · exact K0 _ (by (repeat' first | with_reducible exact Below.refl _ _ | with_reducible assumption | with_reducible refine Bw.drew ?_ | with_reducible refine Bw.drewN ?_ _ | with_reducible refine bw_al ?_ _ | with_reducible refine Bw.then ?_ (by with_reducible assumption)))
                        clear hK' K'
                        try simp only [Act.put, List.setIfInBounds_toArray, List.set_cons_zero, List.set_cons_succ]
                        as_aux_lemma =>
                          refine wpAnyH_ready (rs := [23]) (by kernel_rfl) (by simp) ?_
                          refine (AllReadyH.cons (i := 23) (o := { dst := some 90, op := Go.Op.call { callee := Go.Callee.value (Go.Operand.func 16), args := #[Go.Operand.tmp 88, Go.Operand.tmp 89, Go.Operand.const (Go.Value.int Go.IntKind.i64 1)], argTypes := #[28, 29, 3] }, type := 4, pos := "law.go:212", after := #[{ on := 21, ground := Go.Ground.data }, { on := 22, ground := Go.Ground.data }, { on := 22, ground := Go.Ground.chain }, { on := 20, ground := Go.Ground.guard }], guard := some (20, true) }) rfl (fun K' hK' => ?_) AllReadyH.nil)
                          go_simp
                          refine (val_of (congrArg Value.bool Z4) (pHolds_any (t := tN0) (l := sawL) (i := 1) (hTy.after (by (repeat' first | with_reducible exact Below.refl _ _ | with_reducible assumption | with_reducible refine Bw.drew ?_ | with_reducible refine Bw.drewN ?_ _ | with_reducible refine bw_al ?_ _ | with_reducible refine Bw.then ?_ (by with_reducible assumption)))) ⟨by decide, by decide⟩ (huR21.after (by (repeat' first | with_reducible exact Below.refl _ _ | with_reducible assumption | with_reducible refine Bw.drew ?_ | with_reducible refine Bw.drewN ?_ _ | with_reducible refine bw_al ?_ _ | with_reducible refine Bw.then ?_ (by with_reducible assumption)))) rdNil (hsR22.after (by (repeat' first | with_reducible exact Below.refl _ _ | with_reducible assumption | with_reducible refine Bw.drew ?_ | with_reducible refine Bw.drewN ?_ _ | with_reducible refine bw_al ?_ _ | with_reducible refine Bw.then ?_ (by with_reducible assumption)))).rd)).mono ?_
                          rintro e wR23 ⟨rfl, hbR23⟩
                          try dsimp only
                          refine hK'.out _ _ ?_ (fun hHeld => ?_)
                          · exact K0 _ (by (repeat' first | with_reducible exact Below.refl _ _ | with_reducible assumption | with_reducible refine Bw.drew ?_ | with_reducible refine Bw.drewN ?_ _ | with_reducible refine bw_al ?_ _ | with_reducible refine Bw.then ?_ (by with_reducible assumption)))
                          clear hK' K'
                          try simp only [Act.put, List.setIfInBounds_toArray, List.set_cons_zero, List.set_cons_succ]
                          as_aux_lemma =>
                            refine wpAnyH_take (i := 24) (oi := { dst := some 91, op := Go.Op.pick (Go.Operand.tmp 87) (Go.Operand.tmp 90) (Go.Operand.const (Go.Value.bool false)), type := 4, pos := "law.go:212", after := #[{ on := 20, ground := Go.Ground.data }, { on := 23, ground := Go.Ground.data }], guard := none }) (v := ?v53) rfl (by kernel_rfl) (by kernel_rfl) (by kernel_rfl) (fun _ _ _ h => h) (Or.inl ⟨by rfl, ?hy53⟩) (by assumption) ?_
                            case hy53 => (intro w hSw; (try dsimp only at hSw); go_simp; try with_reducible rfl)
                            try simp only [Act.put, List.setIfInBounds_toArray, List.set_cons_zero, List.set_cons_succ]
                            refine wpAnyH_take (i := 25) (oi := { dst := some 92, op := Go.Op.move (Go.Operand.tmp 91), type := 4, pos := "law.go:212", after := #[{ on := 24, ground := Go.Ground.data }, { on := 23, ground := Go.Ground.chain }], guard := none }) (v := ?v54) rfl (by kernel_rfl) (by kernel_rfl) (by kernel_rfl) (fun _ _ _ h => h) (Or.inl ⟨by rfl, ?hy54⟩) (by assumption) ?_
                            case hy54 => (intro w hSw; (try dsimp only at hSw); go_simp; try with_reducible rfl)
                            try simp only [Act.put, List.setIfInBounds_toArray, List.set_cons_zero, List.set_cons_succ]
                            refine wpAnyH_ready (rs := [26]) (by kernel_rfl) (by simp) ?_
                            refine (AllReadyH.cons (i := 26) (o := { dst := some 93, op := Go.Op.call { callee := Go.Callee.value (Go.Operand.func 29), args := #[Go.Operand.const (Go.Value.int Go.IntKind.i64 (-1)), Go.Operand.const (Go.Value.string { data := #[68, 101, 116] })], argTypes := #[3, 9] }, type := 28, pos := "law.go:212", after := #[{ on := 25, ground := Go.Ground.chain }, { on := 25, ground := Go.Ground.guard }], guard := some (25, true) }) rfl (fun K' hK' => ?_) AllReadyH.nil)
                            go_simp
                            refine (test_any (a := -1) (tag := sDet) (by decide)).mono ?_
                            rintro e wR26 ⟨uR26, rfl, hbR26, huR26⟩
                            obtain ⟨TR26, tn26, tc26, rfl, _, _, _⟩ := huR26.form'
                            try dsimp only
                            refine hK'.out _ _ ?_ (fun hHeld => ?_)
                            · exact K0 _ (by (repeat' first | with_reducible exact Below.refl _ _ | with_reducible assumption | with_reducible refine Bw.drew ?_ | with_reducible refine Bw.drewN ?_ _ | with_reducible refine bw_al ?_ _ | with_reducible refine Bw.then ?_ (by with_reducible assumption)))
                            clear hK' K'
                            try simp only [Act.put, List.setIfInBounds_toArray, List.set_cons_zero, List.set_cons_succ]
                            refine wpAnyH_ready (rs := [27]) (by kernel_rfl) (by simp) ?_
                            refine (AllReadyH.cons (i := 27) (o := { dst := some 94, op := Go.Op.call { callee := Go.Callee.value (Go.Operand.func 30), args := #[], argTypes := #[] }, type := 29, pos := "law.go:212", after := #[{ on := 26, ground := Go.Ground.chain }, { on := 25, ground := Go.Ground.guard }], guard := some (25, true) }) rfl (fun K' hK' => ?_) AllReadyH.nil)
                            go_simp
                            refine saw_any.mono ?_
                            rintro e wR27 ⟨gR27, AR27, nR27, cR27, bR27, oR27, ccR27, A3R27, n3R27, c3R27, PR27, mR27, qR27, rfl, hbR27, hgR27, hsR27⟩
                            try dsimp only
                            refine hK'.out _ _ ?_ (fun hHeld => ?_)
                            · exact K0 _ (by (repeat' first | with_reducible exact Below.refl _ _ | with_reducible assumption | with_reducible refine Bw.drew ?_ | with_reducible refine Bw.drewN ?_ _ | with_reducible refine bw_al ?_ _ | with_reducible refine Bw.then ?_ (by with_reducible assumption)))
                            clear hK' K'
                            try simp only [Act.put, List.setIfInBounds_toArray, List.set_cons_zero, List.set_cons_succ]
                            as_aux_lemma =>
                              refine wpAnyH_ready (rs := [28]) (by kernel_rfl) (by simp) ?_
                              refine (AllReadyH.cons (i := 28) (o := { dst := some 95, op := Go.Op.call { callee := Go.Callee.value (Go.Operand.func 16), args := #[Go.Operand.tmp 93, Go.Operand.tmp 94, Go.Operand.const (Go.Value.int Go.IntKind.i64 0)], argTypes := #[28, 29, 3] }, type := 4, pos := "law.go:212", after := #[{ on := 26, ground := Go.Ground.data }, { on := 27, ground := Go.Ground.data }, { on := 27, ground := Go.Ground.chain }, { on := 25, ground := Go.Ground.guard }], guard := some (25, true) }) rfl (fun K' hK' => ?_) AllReadyH.nil)
                              go_simp
                              refine (val_of (congrArg Value.bool Z5) (pHolds_any (t := tDet) (l := sawL) (i := 0) (hTy.after (by (repeat' first | with_reducible exact Below.refl _ _ | with_reducible assumption | with_reducible refine Bw.drew ?_ | with_reducible refine Bw.drewN ?_ _ | with_reducible refine bw_al ?_ _ | with_reducible refine Bw.then ?_ (by with_reducible assumption)))) ⟨by decide, by decide⟩ (huR26.after (by (repeat' first | with_reducible exact Below.refl _ _ | with_reducible assumption | with_reducible refine Bw.drew ?_ | with_reducible refine Bw.drewN ?_ _ | with_reducible refine bw_al ?_ _ | with_reducible refine Bw.then ?_ (by with_reducible assumption)))) rdNil (hsR27.after (by (repeat' first | with_reducible exact Below.refl _ _ | with_reducible assumption | with_reducible refine Bw.drew ?_ | with_reducible refine Bw.drewN ?_ _ | with_reducible refine bw_al ?_ _ | with_reducible refine Bw.then ?_ (by with_reducible assumption)))).rd)).mono ?_
                              rintro e wR28 ⟨rfl, hbR28⟩
                              try dsimp only
                              refine hK'.out _ _ ?_ (fun hHeld => ?_)
                              · exact K0 _ (by (repeat' first | with_reducible exact Below.refl _ _ | with_reducible assumption | with_reducible refine Bw.drew ?_ | with_reducible refine Bw.drewN ?_ _ | with_reducible refine bw_al ?_ _ | with_reducible refine Bw.then ?_ (by with_reducible assumption)))
                              clear hK' K'
                              try simp only [Act.put, List.setIfInBounds_toArray, List.set_cons_zero, List.set_cons_succ]
                              refine wpAnyH_take (i := 29) (oi := { dst := some 96, op := Go.Op.unOp Go.UnOp.not 4 (Go.Operand.tmp 95), type := 4, pos := "law.go:212", after := #[{ on := 28, ground := Go.Ground.data }, { on := 25, ground := Go.Ground.guard }], guard := some (25, true) }) (v := ?v55) rfl (by kernel_rfl) (by kernel_rfl) (by kernel_rfl) (fun _ _ _ h => h) (Or.inl ⟨by rfl, ?hy55⟩) (by assumption) ?_
                              case hy55 => (intro w hSw; (try dsimp only at hSw); go_simp; try with_reducible rfl)
                              try simp only [Act.put, List.setIfInBounds_toArray, List.set_cons_zero, List.set_cons_succ]
                              as_aux_lemma =>
                                refine wpAnyH_take (i := 30) (oi := { dst := some 97, op := Go.Op.pick (Go.Operand.tmp 92) (Go.Operand.tmp 96) (Go.Operand.const (Go.Value.bool false)), type := 4, pos := "law.go:212", after := #[{ on := 25, ground := Go.Ground.data }, { on := 29, ground := Go.Ground.data }], guard := none }) (v := ?v56) rfl (by kernel_rfl) (by kernel_rfl) (by kernel_rfl) (fun _ _ _ h => h) (Or.inl ⟨by rfl, ?hy56⟩) (by assumption) ?_
                                case hy56 => (intro w hSw; (try dsimp only at hSw); go_simp; try with_reducible rfl)
                                try simp only [Act.put, List.setIfInBounds_toArray, List.set_cons_zero, List.set_cons_succ]
                                refine wpAnyH_take (i := 31) (oi := { dst := some 98, op := Go.Op.move (Go.Operand.tmp 97), type := 4, pos := "law.go:212", after := #[{ on := 30, ground := Go.Ground.data }, { on := 28, ground := Go.Ground.chain }], guard := none }) (v := ?v57) rfl (by kernel_rfl) (by kernel_rfl) (by kernel_rfl) (fun _ _ _ h => h) (Or.inl ⟨by rfl, ?hy57⟩) (by assumption) ?_
                                case hy57 => (intro w hSw; (try dsimp only at hSw); go_simp; try with_reducible rfl)
                                try simp only [Act.put, List.setIfInBounds_toArray, List.set_cons_zero, List.set_cons_succ]
                                refine wpAnyH_take (i := 32) (oi := { dst := some 99, op := Go.Op.load 28 (Go.Operand.tmp 1), type := 28, pos := "law.go:212", after := #[{ on := 31, ground := Go.Ground.guard }], guard := some (31, true) }) (v := ?v58) rfl (by kernel_rfl) (by kernel_rfl) (by kernel_rfl) (fun _ _ _ h => h) (Or.inl ⟨by rfl, ?hy58⟩) (by assumption) ?_
                                case hy58 => (intro w hSw; (try dsimp only at hSw); go_simp; try with_reducible rfl)
                                try simp only [Act.put, List.setIfInBounds_toArray, List.set_cons_zero, List.set_cons_succ]
                                refine wpAnyH_ready (rs := [33]) (by kernel_rfl) (by simp) ?_
                                refine (AllReadyH.cons (i := 33) (o := { dst := some 100, op := Go.Op.call { callee := Go.Callee.value (Go.Operand.func 30), args := #[], argTypes := #[] }, type := 29, pos := "law.go:212", after := #[{ on := 31, ground := Go.Ground.chain }, { on := 31, ground := Go.Ground.guard }], guard := some (31, true) }) rfl (fun K' hK' => ?_) AllReadyH.nil)
                                go_simp
                                refine saw_any.mono ?_
                                rintro e wR33 ⟨gR33, AR33, nR33, cR33, bR33, oR33, ccR33, A3R33, n3R33, c3R33, PR33, mR33, qR33, rfl, hbR33, hgR33, hsR33⟩
                                try dsimp only
                                refine hK'.out _ _ ?_ (fun hHeld => ?_)
                                · exact K0 _ (by (repeat' first | with_reducible exact Below.refl _ _ | with_reducible assumption | with_reducible refine Bw.drew ?_ | with_reducible refine Bw.drewN ?_ _ | with_reducible refine bw_al ?_ _ | with_reducible refine Bw.then ?_ (by with_reducible assumption)))
                                clear hK' K'
                                try simp only [Act.put, List.setIfInBounds_toArray, List.set_cons_zero, List.set_cons_succ]
                                as_aux_lemma =>
                                  refine wpAnyH_ready (rs := [34]) (by kernel_rfl) (by simp) ?_
                                  refine (AllReadyH.cons (i := 34) (o := { dst := some 101, op := Go.Op.call { callee := Go.Callee.value (Go.Operand.func 16), args := #[Go.Operand.tmp 99, Go.Operand.tmp 100, Go.Operand.const (Go.Value.int Go.IntKind.i64 0)], argTypes := #[28, 29, 3] }, type := 4, pos := "law.go:212", after := #[{ on := 32, ground := Go.Ground.data }, { on := 33, ground := Go.Ground.data }, { on := 33, ground := Go.Ground.chain }, { on := 31, ground := Go.Ground.guard }], guard := some (31, true) }) rfl (fun K' hK' => ?_) AllReadyH.nil)
                                  go_simp
                                  refine (val_of (congrArg Value.bool Z6) (pHolds_any (t := tNot) (l := sawL) (i := 0) (hTy.after (by (repeat' first | with_reducible exact Below.refl _ _ | with_reducible assumption | with_reducible refine Bw.drew ?_ | with_reducible refine Bw.drewN ?_ _ | with_reducible refine bw_al ?_ _ | with_reducible refine Bw.then ?_ (by with_reducible assumption)))) ⟨by decide, by decide⟩ (d1.after (by (repeat' first | with_reducible exact Below.refl _ _ | with_reducible assumption | with_reducible refine Bw.drew ?_ | with_reducible refine Bw.drewN ?_ _ | with_reducible refine bw_al ?_ _ | with_reducible refine Bw.then ?_ (by with_reducible assumption)))) rdNil (hsR33.after (by (repeat' first | with_reducible exact Below.refl _ _ | with_reducible assumption | with_reducible refine Bw.drew ?_ | with_reducible refine Bw.drewN ?_ _ | with_reducible refine bw_al ?_ _ | with_reducible refine Bw.then ?_ (by with_reducible assumption)))).rd)).mono ?_
                                  rintro e wR34 ⟨rfl, hbR34⟩
                                  try dsimp only
                                  refine hK'.out _ _ ?_ (fun hHeld => ?_)
                                  · exact K0 _ (by (repeat' first | with_reducible exact Below.refl _ _ | with_reducible assumption | with_reducible refine Bw.drew ?_ | with_reducible refine Bw.drewN ?_ _ | with_reducible refine bw_al ?_ _ | with_reducible refine Bw.then ?_ (by with_reducible assumption)))
                                  clear hK' K'
                                  try simp only [Act.put, List.setIfInBounds_toArray, List.set_cons_zero, List.set_cons_succ]
                                  refine wpAnyH_take (i := 35) (oi := { dst := some 102, op := Go.Op.pick (Go.Operand.tmp 98) (Go.Operand.tmp 101) (Go.Operand.const (Go.Value.bool false)), type := 4, pos := "law.go:212", after := #[{ on := 31, ground := Go.Ground.data }, { on := 34, ground := Go.Ground.data }], guard := none }) (v := ?v59) rfl (by kernel_rfl) (by kernel_rfl) (by kernel_rfl) (fun _ _ _ h => h) (Or.inl ⟨by rfl, ?hy59⟩) (by assumption) ?_
                                  case hy59 => (intro w hSw; (try dsimp only at hSw); go_simp; try with_reducible rfl)
                                  try simp only [Act.put, List.setIfInBounds_toArray, List.set_cons_zero, List.set_cons_succ]
                                  as_aux_lemma =>
                                    refine wpAnyH_take (i := 36) (oi := { dst := some 103, op := Go.Op.move (Go.Operand.tmp 102), type := 4, pos := "law.go:212", after := #[{ on := 35, ground := Go.Ground.data }, { on := 34, ground := Go.Ground.chain }], guard := none }) (v := ?v60) rfl (by kernel_rfl) (by kernel_rfl) (by kernel_rfl) (fun _ _ _ h => h) (Or.inl ⟨by rfl, ?hy60⟩) (by assumption) ?_
                                    case hy60 => (intro w hSw; (try dsimp only at hSw); go_simp; try with_reducible rfl)
                                    try simp only [Act.put, List.setIfInBounds_toArray, List.set_cons_zero, List.set_cons_succ]
                                    refine wpAnyH_ready (rs := [37]) (by kernel_rfl) (by simp) ?_
                                    refine (AllReadyH.cons (i := 37) (o := { dst := some 104, op := Go.Op.call { callee := Go.Callee.value (Go.Operand.func 29), args := #[Go.Operand.const (Go.Value.int Go.IntKind.i64 0), Go.Operand.const (Go.Value.string { data := #[68, 101, 116] })], argTypes := #[3, 9] }, type := 28, pos := "law.go:212", after := #[{ on := 36, ground := Go.Ground.chain }, { on := 36, ground := Go.Ground.guard }], guard := some (36, true) }) rfl (fun K' hK' => ?_) AllReadyH.nil)
                                    go_simp
                                    refine (test_any (a := 0) (tag := sDet) (by decide)).mono ?_
                                    rintro e wR37 ⟨uR37, rfl, hbR37, huR37⟩
                                    obtain ⟨TR37, tn37, tc37, rfl, _, _, _⟩ := huR37.form'
                                    try dsimp only
                                    refine hK'.out _ _ ?_ (fun hHeld => ?_)
                                    · exact K0 _ (by (repeat' first | with_reducible exact Below.refl _ _ | with_reducible assumption | with_reducible refine Bw.drew ?_ | with_reducible refine Bw.drewN ?_ _ | with_reducible refine bw_al ?_ _ | with_reducible refine Bw.then ?_ (by with_reducible assumption)))
                                    clear hK' K'
                                    try simp only [Act.put, List.setIfInBounds_toArray, List.set_cons_zero, List.set_cons_succ]
                                    refine wpAnyH_ready (rs := [38]) (by kernel_rfl) (by simp) ?_
                                    refine (AllReadyH.cons (i := 38) (o := { dst := some 105, op := Go.Op.call { callee := Go.Callee.value (Go.Operand.func 30), args := #[], argTypes := #[] }, type := 29, pos := "law.go:212", after := #[{ on := 37, ground := Go.Ground.chain }, { on := 36, ground := Go.Ground.guard }], guard := some (36, true) }) rfl (fun K' hK' => ?_) AllReadyH.nil)
                                    go_simp
                                    refine saw_any.mono ?_
                                    rintro e wR38 ⟨gR38, AR38, nR38, cR38, bR38, oR38, ccR38, A3R38, n3R38, c3R38, PR38, mR38, qR38, rfl, hbR38, hgR38, hsR38⟩
                                    try dsimp only
                                    refine hK'.out _ _ ?_ (fun hHeld => ?_)
                                    · exact K0 _ (by (repeat' first | with_reducible exact Below.refl _ _ | with_reducible assumption | with_reducible refine Bw.drew ?_ | with_reducible refine Bw.drewN ?_ _ | with_reducible refine bw_al ?_ _ | with_reducible refine Bw.then ?_ (by with_reducible assumption)))
                                    clear hK' K'
                                    try simp only [Act.put, List.setIfInBounds_toArray, List.set_cons_zero, List.set_cons_succ]
                                    as_aux_lemma =>
                                      refine wpAnyH_ready (rs := [39]) (by kernel_rfl) (by simp) ?_
                                      refine (AllReadyH.cons (i := 39) (o := { dst := some 106, op := Go.Op.call { callee := Go.Callee.value (Go.Operand.func 16), args := #[Go.Operand.tmp 104, Go.Operand.tmp 105, Go.Operand.const (Go.Value.int Go.IntKind.i64 (-1))], argTypes := #[28, 29, 3] }, type := 4, pos := "law.go:212", after := #[{ on := 37, ground := Go.Ground.data }, { on := 38, ground := Go.Ground.data }, { on := 38, ground := Go.Ground.chain }, { on := 36, ground := Go.Ground.guard }], guard := some (36, true) }) rfl (fun K' hK' => ?_) AllReadyH.nil)
                                      go_simp
                                      refine (val_of (congrArg Value.bool Z7) (pHolds_any (t := tD0) (l := sawL) (i := (-1)) (hTy.after (by (repeat' first | with_reducible exact Below.refl _ _ | with_reducible assumption | with_reducible refine Bw.drew ?_ | with_reducible refine Bw.drewN ?_ _ | with_reducible refine bw_al ?_ _ | with_reducible refine Bw.then ?_ (by with_reducible assumption)))) ⟨by decide, by decide⟩ (huR37.after (by (repeat' first | with_reducible exact Below.refl _ _ | with_reducible assumption | with_reducible refine Bw.drew ?_ | with_reducible refine Bw.drewN ?_ _ | with_reducible refine bw_al ?_ _ | with_reducible refine Bw.then ?_ (by with_reducible assumption)))) rdNil (hsR38.after (by (repeat' first | with_reducible exact Below.refl _ _ | with_reducible assumption | with_reducible refine Bw.drew ?_ | with_reducible refine Bw.drewN ?_ _ | with_reducible refine bw_al ?_ _ | with_reducible refine Bw.then ?_ (by with_reducible assumption)))).rd)).mono ?_
                                      rintro e wR39 ⟨rfl, hbR39⟩
                                      try dsimp only
                                      refine hK'.out _ _ ?_ (fun hHeld => ?_)
                                      · exact K0 _ (by (repeat' first | with_reducible exact Below.refl _ _ | with_reducible assumption | with_reducible refine Bw.drew ?_ | with_reducible refine Bw.drewN ?_ _ | with_reducible refine bw_al ?_ _ | with_reducible refine Bw.then ?_ (by with_reducible assumption)))
                                      clear hK' K'
                                      try simp only [Act.put, List.setIfInBounds_toArray, List.set_cons_zero, List.set_cons_succ]
                                      refine wpAnyH_take (i := 40) (oi := { dst := some 107, op := Go.Op.unOp Go.UnOp.not 4 (Go.Operand.tmp 106), type := 4, pos := "law.go:212", after := #[{ on := 39, ground := Go.Ground.data }, { on := 36, ground := Go.Ground.guard }], guard := some (36, true) }) (v := ?v61) rfl (by kernel_rfl) (by kernel_rfl) (by kernel_rfl) (fun _ _ _ h => h) (Or.inl ⟨by rfl, ?hy61⟩) (by assumption) ?_
                                      case hy61 => (intro w hSw; (try dsimp only at hSw); go_simp; try with_reducible rfl)
                                      try simp only [Act.put, List.setIfInBounds_toArray, List.set_cons_zero, List.set_cons_succ]
                                      refine wpAnyH_take (i := 41) (oi := { dst := some 108, op := Go.Op.pick (Go.Operand.tmp 103) (Go.Operand.tmp 107) (Go.Operand.const (Go.Value.bool false)), type := 4, pos := "law.go:212", after := #[{ on := 36, ground := Go.Ground.data }, { on := 40, ground := Go.Ground.data }], guard := none }) (v := ?v62) rfl (by kernel_rfl) (by kernel_rfl) (by kernel_rfl) (fun _ _ _ h => h) (Or.inl ⟨by rfl, ?hy62⟩) (by assumption) ?_
                                      case hy62 => (intro w hSw; (try dsimp only at hSw); go_simp; try with_reducible rfl)
                                      try simp only [Act.put, List.setIfInBounds_toArray, List.set_cons_zero, List.set_cons_succ]
                                      as_aux_lemma =>
                                        refine wpAnyH_take (i := 42) (oi := { dst := some 109, op := Go.Op.move (Go.Operand.tmp 108), type := 4, pos := "law.go:212", after := #[{ on := 41, ground := Go.Ground.data }, { on := 39, ground := Go.Ground.chain }], guard := none }) (v := ?v63) rfl (by kernel_rfl) (by kernel_rfl) (by kernel_rfl) (fun _ _ _ h => h) (Or.inl ⟨by rfl, ?hy63⟩) (by assumption) ?_
                                        case hy63 => (intro w hSw; (try dsimp only at hSw); go_simp; try with_reducible rfl)
                                        try simp only [Act.put, List.setIfInBounds_toArray, List.set_cons_zero, List.set_cons_succ]
                                        refine wpAnyH_take (i := 43) (oi := { dst := some 110, op := Go.Op.move (Go.Operand.tmp 7), type := 38, pos := "law.go:212", after := #[{ on := 42, ground := Go.Ground.guard }], guard := some (42, true) }) (v := ?v64) rfl (by kernel_rfl) (by kernel_rfl) (by kernel_rfl) (fun _ _ _ h => h) (Or.inl ⟨by rfl, ?hy64⟩) (by assumption) ?_
                                        case hy64 => (intro w hSw; (try dsimp only at hSw); go_simp; try with_reducible rfl)
                                        try simp only [Act.put, List.setIfInBounds_toArray, List.set_cons_zero, List.set_cons_succ]
                                        refine wpAnyH_take (i := 44) (oi := { dst := some 111, op := Go.Op.binOp Go.BinOp.eql 38 (Go.Operand.tmp 110) (Go.Operand.const (Go.Value.int Go.IntKind.i64 0)) 38, type := 4, pos := "law.go:212", after := #[{ on := 43, ground := Go.Ground.data }, { on := 42, ground := Go.Ground.guard }], guard := some (42, true) }) (v := ?v65) rfl (by kernel_rfl) (by kernel_rfl) (by kernel_rfl) (fun _ _ _ h => h) (Or.inl ⟨by rfl, ?hy65⟩) (by assumption) ?_
                                        case hy65 => (intro w hSw; (try dsimp only at hSw); go_simp; try with_reducible rfl)
                                        try simp only [Act.put, List.setIfInBounds_toArray, List.set_cons_zero, List.set_cons_succ]
                                        refine wpAnyH_take (i := 45) (oi := { dst := some 112, op := Go.Op.pick (Go.Operand.tmp 109) (Go.Operand.tmp 111) (Go.Operand.const (Go.Value.bool false)), type := 4, pos := "law.go:212", after := #[{ on := 42, ground := Go.Ground.data }, { on := 44, ground := Go.Ground.data }], guard := none }) (v := ?v66) rfl (by kernel_rfl) (by kernel_rfl) (by kernel_rfl) (fun _ _ _ h => h) (Or.inl ⟨by rfl, ?hy66⟩) (by assumption) ?_
                                        case hy66 => (intro w hSw; (try dsimp only at hSw); go_simp; try with_reducible rfl)
                                        try simp only [Act.put, List.setIfInBounds_toArray, List.set_cons_zero, List.set_cons_succ]
                                        refine wpAnyH_take (i := 46) (oi := { dst := some 113, op := Go.Op.move (Go.Operand.tmp 112), type := 4, pos := "law.go:212", after := #[{ on := 45, ground := Go.Ground.data }, { on := 42, ground := Go.Ground.chain }], guard := none }) (v := ?v67) rfl (by kernel_rfl) (by kernel_rfl) (by kernel_rfl) (fun _ _ _ h => h) (Or.inl ⟨by rfl, ?hy67⟩) (by assumption) ?_
                                        case hy67 => (intro w hSw; (try dsimp only at hSw); go_simp; try with_reducible rfl)
                                        try simp only [Act.put, List.setIfInBounds_toArray, List.set_cons_zero, List.set_cons_succ]
                                        refine wpAnyH_take (i := 47) (oi := { dst := some 114, op := Go.Op.move (Go.Operand.tmp 6), type := 4, pos := "law.go:212", after := #[{ on := 46, ground := Go.Ground.guard }], guard := some (46, true) }) (v := ?v68) rfl (by kernel_rfl) (by kernel_rfl) (by kernel_rfl) (fun _ _ _ h => h) (Or.inl ⟨by rfl, ?hy68⟩) (by assumption) ?_
                                        case hy68 => (intro w hSw; (try dsimp only at hSw); go_simp; try with_reducible rfl)
                                        try simp only [Act.put, List.setIfInBounds_toArray, List.set_cons_zero, List.set_cons_succ]
                                        as_aux_lemma =>
                                          refine wpAnyH_take (i := 48) (oi := { dst := some 115, op := Go.Op.pick (Go.Operand.tmp 113) (Go.Operand.tmp 114) (Go.Operand.const (Go.Value.bool false)), type := 4, pos := "law.go:212", after := #[{ on := 46, ground := Go.Ground.data }, { on := 47, ground := Go.Ground.data }], guard := none }) (v := ?v69) rfl (by kernel_rfl) (by kernel_rfl) (by kernel_rfl) (fun _ _ _ h => h) (Or.inl ⟨by rfl, ?hy69⟩) (by assumption) ?_
                                          case hy69 => (intro w hSw; (try dsimp only at hSw); go_simp; try with_reducible rfl)
                                          try simp only [Act.put, List.setIfInBounds_toArray, List.set_cons_zero, List.set_cons_succ]
                                          refine wpAnyH_take (i := 49) (oi := { dst := some 116, op := Go.Op.move (Go.Operand.tmp 115), type := 4, pos := "law.go:212", after := #[{ on := 48, ground := Go.Ground.data }, { on := 46, ground := Go.Ground.chain }], guard := none }) (v := ?v70) rfl (by kernel_rfl) (by kernel_rfl) (by kernel_rfl) (fun _ _ _ h => h) (Or.inl ⟨by rfl, ?hy70⟩) (by assumption) ?_
                                          case hy70 => (intro w hSw; (try dsimp only at hSw); go_simp; try with_reducible rfl)
                                          try simp only [Act.put, List.setIfInBounds_toArray, List.set_cons_zero, List.set_cons_succ]
                                          refine wpAnyH_take (i := 50) (oi := { dst := some 117, op := Go.Op.load 37 (Go.Operand.tmp 5), type := 37, pos := "law.go:212", after := #[{ on := 49, ground := Go.Ground.guard }], guard := some (49, true) }) (v := ?v71) rfl (by kernel_rfl) (by kernel_rfl) (by kernel_rfl) (fun _ _ _ h => h) (Or.inl ⟨by rfl, ?hy71⟩) (by assumption) ?_
                                          case hy71 => (intro w hSw; (try dsimp only at hSw); go_simp; try with_reducible rfl)
                                          try simp only [Act.put, List.setIfInBounds_toArray, List.set_cons_zero, List.set_cons_succ]
                                          refine wpAnyH_ready (rs := [51]) (by kernel_rfl) (by simp) ?_
                                          refine (AllReadyH.cons (i := 51) (o := { dst := some 118, op := Go.Op.buildSlice 22 2 #[(0, Go.Operand.const (Go.Value.string { data := #[86] })), (1, Go.Operand.const (Go.Value.string { data := #[80, 97, 115, 116] }))], type := 22, pos := "law.go:212", after := #[{ on := 49, ground := Go.Ground.guard }], guard := some (49, true) }) rfl (fun K' hK' => ?_) AllReadyH.nil)
                                          go_simp
                                          refine hK'.out _ _ ?_ (fun hHeld => ?_)
                                          · exact K0 _ (by (repeat' first | with_reducible exact Below.refl _ _ | with_reducible assumption | with_reducible refine Bw.drew ?_ | with_reducible refine Bw.drewN ?_ _ | with_reducible refine bw_al ?_ _ | with_reducible refine Bw.then ?_ (by with_reducible assumption)))
                                          clear hK' K'
                                          try simp only [Act.put, List.setIfInBounds_toArray, List.set_cons_zero, List.set_cons_succ]
                                          refine wpAnyH_ready (rs := [52]) (by kernel_rfl) (by simp) ?_
                                          refine (AllReadyH.cons (i := 52) (o := { dst := some 119, op := Go.Op.buildSlice 70 1 #[(0, Go.Operand.tmp 118)], type := 70, pos := "law.go:212", after := #[{ on := 51, ground := Go.Ground.data }, { on := 49, ground := Go.Ground.guard }], guard := some (49, true) }) rfl (fun K' hK' => ?_) AllReadyH.nil)
                                          go_simp
                                          refine hK'.out _ _ ?_ (fun hHeld => ?_)
                                          · exact K0 _ (by (repeat' first | with_reducible exact Below.refl _ _ | with_reducible assumption | with_reducible refine Bw.drew ?_ | with_reducible refine Bw.drewN ?_ _ | with_reducible refine bw_al ?_ _ | with_reducible refine Bw.then ?_ (by with_reducible assumption)))
                                          clear hK' K'
                                          try simp only [Act.put, List.setIfInBounds_toArray, List.set_cons_zero, List.set_cons_succ]
                                          refine wpAnyH_ready (rs := [53]) (by kernel_rfl) (by simp) ?_
                                          refine (AllReadyH.cons (i := 53) (o := { dst := some 120, op := Go.Op.call { callee := Go.Callee.value (Go.Operand.func 32), args := #[Go.Operand.const (Go.Value.string { data := #[115, 97, 119] }), Go.Operand.tmp 119], argTypes := #[9, 70] }, type := 37, pos := "law.go:213", after := #[{ on := 52, ground := Go.Ground.data }, { on := 49, ground := Go.Ground.chain }, { on := 49, ground := Go.Ground.guard }], guard := some (49, true) }) rfl (fun K' hK' => ?_) AllReadyH.nil)
                                          go_simp
                                          refine (cohort_any (fm := cSaw.1) (rs := [[sV, sPast]]) (litR1 (at_new (by simp)) (lit2 (x := sV) (y := sPast) (at_old (at_new rfl)) (by decide) (by decide))) (fun b hb => hb) (by decide)).mono ?_
                                          rintro e wR53 ⟨uR53, rfl, hbR53, huR53⟩
                                          obtain ⟨TR53, tn53, tc53, rfl, _, _, _⟩ := huR53.form'
                                          try dsimp only
                                          refine hK'.out _ _ ?_ (fun hHeld => ?_)
                                          · exact K0 _ (by (repeat' first | with_reducible exact Below.refl _ _ | with_reducible assumption | with_reducible refine Bw.drew ?_ | with_reducible refine Bw.drewN ?_ _ | with_reducible refine bw_al ?_ _ | with_reducible refine Bw.then ?_ (by with_reducible assumption)))
                                          clear hK' K'
                                          try simp only [Act.put, List.setIfInBounds_toArray, List.set_cons_zero, List.set_cons_succ]
                                          as_aux_lemma =>
                                            refine wpAnyH_ready (rs := [54]) (by kernel_rfl) (by simp) ?_
                                            refine (AllReadyH.cons (i := 54) (o := { dst := some 121, op := Go.Op.call { callee := Go.Callee.value (Go.Operand.func 20), args := #[Go.Operand.tmp 117, Go.Operand.tmp 120], argTypes := #[37, 37] }, type := 4, pos := "law.go:213", after := #[{ on := 50, ground := Go.Ground.data }, { on := 53, ground := Go.Ground.data }, { on := 53, ground := Go.Ground.chain }, { on := 49, ground := Go.Ground.guard }], guard := some (49, true) }) rfl (fun K' hK' => ?_) AllReadyH.nil)
                                            go_simp
                                            refine (val_of (congrArg Value.bool Z8) (samec_any (f1 := cSaw.1) (f2 := cSaw.1) (d5.after (by (repeat' first | with_reducible exact Below.refl _ _ | with_reducible assumption | with_reducible refine Bw.drew ?_ | with_reducible refine Bw.drewN ?_ _ | with_reducible refine bw_al ?_ _ | with_reducible refine Bw.then ?_ (by with_reducible assumption)))) (huR53.rd.after (by (repeat' first | with_reducible exact Below.refl _ _ | with_reducible assumption | with_reducible refine Bw.drew ?_ | with_reducible refine Bw.drewN ?_ _ | with_reducible refine bw_al ?_ _ | with_reducible refine Bw.then ?_ (by with_reducible assumption)))))).mono ?_
                                            rintro e wR54 ⟨rfl, hbR54⟩
                                            try dsimp only
                                            refine hK'.out _ _ ?_ (fun hHeld => ?_)
                                            · exact K0 _ (by (repeat' first | with_reducible exact Below.refl _ _ | with_reducible assumption | with_reducible refine Bw.drew ?_ | with_reducible refine Bw.drewN ?_ _ | with_reducible refine bw_al ?_ _ | with_reducible refine Bw.then ?_ (by with_reducible assumption)))
                                            clear hK' K'
                                            try simp only [Act.put, List.setIfInBounds_toArray, List.set_cons_zero, List.set_cons_succ]
                                            refine wpAnyH_take (i := 55) (oi := { dst := some 122, op := Go.Op.pick (Go.Operand.tmp 116) (Go.Operand.tmp 121) (Go.Operand.const (Go.Value.bool false)), type := 4, pos := "law.go:212", after := #[{ on := 49, ground := Go.Ground.data }, { on := 54, ground := Go.Ground.data }], guard := none }) (v := ?v72) rfl (by kernel_rfl) (by kernel_rfl) (by kernel_rfl) (fun _ _ _ h => h) (Or.inl ⟨by rfl, ?hy72⟩) (by assumption) ?_
                                            case hy72 => (intro w hSw; (try dsimp only at hSw); go_simp; try with_reducible rfl)
                                            try simp only [Act.put, List.setIfInBounds_toArray, List.set_cons_zero, List.set_cons_succ]
                                            refine wpAnyH_take (i := 56) (oi := { dst := some 123, op := Go.Op.move (Go.Operand.tmp 122), type := 4, pos := "law.go:212", after := #[{ on := 55, ground := Go.Ground.data }, { on := 54, ground := Go.Ground.chain }], guard := none }) (v := ?v73) rfl (by kernel_rfl) (by kernel_rfl) (by kernel_rfl) (fun _ _ _ h => h) (Or.inl ⟨by rfl, ?hy73⟩) (by assumption) ?_
                                            case hy73 => (intro w hSw; (try dsimp only at hSw); go_simp; try with_reducible rfl)
                                            try simp only [Act.put, List.setIfInBounds_toArray, List.set_cons_zero, List.set_cons_succ]
                                            refine wpAnyH_take (i := 57) (oi := { dst := some 124, op := Go.Op.move (Go.Operand.tmp 10), type := 38, pos := "law.go:212", after := #[{ on := 56, ground := Go.Ground.guard }], guard := some (56, true) }) (v := ?v74) rfl (by kernel_rfl) (by kernel_rfl) (by kernel_rfl) (fun _ _ _ h => h) (Or.inl ⟨by rfl, ?hy74⟩) (by assumption) ?_
                                            case hy74 => (intro w hSw; (try dsimp only at hSw); go_simp; try with_reducible rfl)
                                            try simp only [Act.put, List.setIfInBounds_toArray, List.set_cons_zero, List.set_cons_succ]
                                            refine wpAnyH_take (i := 58) (oi := { dst := some 125, op := Go.Op.binOp Go.BinOp.eql 38 (Go.Operand.tmp 124) (Go.Operand.const (Go.Value.int Go.IntKind.i64 0)) 38, type := 4, pos := "law.go:212", after := #[{ on := 57, ground := Go.Ground.data }, { on := 56, ground := Go.Ground.guard }], guard := some (56, true) }) (v := ?v75) rfl (by kernel_rfl) (by kernel_rfl) (by kernel_rfl) (fun _ _ _ h => h) (Or.inl ⟨by rfl, ?hy75⟩) (by assumption) ?_
                                            case hy75 => (intro w hSw; (try dsimp only at hSw); go_simp; try with_reducible rfl)
                                            try simp only [Act.put, List.setIfInBounds_toArray, List.set_cons_zero, List.set_cons_succ]
                                            refine wpAnyH_take (i := 59) (oi := { dst := some 126, op := Go.Op.pick (Go.Operand.tmp 123) (Go.Operand.tmp 125) (Go.Operand.const (Go.Value.bool false)), type := 4, pos := "law.go:212", after := #[{ on := 56, ground := Go.Ground.data }, { on := 58, ground := Go.Ground.data }], guard := none }) (v := ?v76) rfl (by kernel_rfl) (by kernel_rfl) (by kernel_rfl) (fun _ _ _ h => h) (Or.inl ⟨by rfl, ?hy76⟩) (by assumption) ?_
                                            case hy76 => (intro w hSw; (try dsimp only at hSw); go_simp; try with_reducible rfl)
                                            try simp only [Act.put, List.setIfInBounds_toArray, List.set_cons_zero, List.set_cons_succ]
                                            as_aux_lemma =>
                                              refine wpAnyH_take (i := 60) (oi := { dst := some 127, op := Go.Op.move (Go.Operand.tmp 126), type := 4, pos := "law.go:212", after := #[{ on := 59, ground := Go.Ground.data }, { on := 56, ground := Go.Ground.chain }], guard := none }) (v := ?v77) rfl (by kernel_rfl) (by kernel_rfl) (by kernel_rfl) (fun _ _ _ h => h) (Or.inl ⟨by rfl, ?hy77⟩) (by assumption) ?_
                                              case hy77 => (intro w hSw; (try dsimp only at hSw); go_simp; try with_reducible rfl)
                                              try simp only [Act.put, List.setIfInBounds_toArray, List.set_cons_zero, List.set_cons_succ]
                                              refine wpAnyH_take (i := 61) (oi := { dst := some 128, op := Go.Op.move (Go.Operand.tmp 9), type := 4, pos := "law.go:212", after := #[{ on := 60, ground := Go.Ground.guard }], guard := some (60, true) }) (v := ?v78) rfl (by kernel_rfl) (by kernel_rfl) (by kernel_rfl) (fun _ _ _ h => h) (Or.inl ⟨by rfl, ?hy78⟩) (by assumption) ?_
                                              case hy78 => (intro w hSw; (try dsimp only at hSw); go_simp; try with_reducible rfl)
                                              try simp only [Act.put, List.setIfInBounds_toArray, List.set_cons_zero, List.set_cons_succ]
                                              refine wpAnyH_take (i := 62) (oi := { dst := some 129, op := Go.Op.unOp Go.UnOp.not 4 (Go.Operand.tmp 128), type := 4, pos := "law.go:212", after := #[{ on := 61, ground := Go.Ground.data }, { on := 60, ground := Go.Ground.guard }], guard := some (60, true) }) (v := ?v79) rfl (by kernel_rfl) (by kernel_rfl) (by kernel_rfl) (fun _ _ _ h => h) (Or.inl ⟨by rfl, ?hy79⟩) (by assumption) ?_
                                              case hy79 => (intro w hSw; (try dsimp only at hSw); go_simp; try with_reducible rfl)
                                              try simp only [Act.put, List.setIfInBounds_toArray, List.set_cons_zero, List.set_cons_succ]
                                              refine wpAnyH_take (i := 63) (oi := { dst := some 130, op := Go.Op.pick (Go.Operand.tmp 127) (Go.Operand.tmp 129) (Go.Operand.const (Go.Value.bool false)), type := 4, pos := "law.go:212", after := #[{ on := 60, ground := Go.Ground.data }, { on := 62, ground := Go.Ground.data }], guard := none }) (v := ?v80) rfl (by kernel_rfl) (by kernel_rfl) (by kernel_rfl) (fun _ _ _ h => h) (Or.inl ⟨by rfl, ?hy80⟩) (by assumption) ?_
                                              case hy80 => (intro w hSw; (try dsimp only at hSw); go_simp; try with_reducible rfl)
                                              try simp only [Act.put, List.setIfInBounds_toArray, List.set_cons_zero, List.set_cons_succ]
                                              refine wpAnyH_take (i := 64) (oi := { dst := some 131, op := Go.Op.move (Go.Operand.tmp 130), type := 4, pos := "law.go:212", after := #[{ on := 63, ground := Go.Ground.data }, { on := 60, ground := Go.Ground.chain }], guard := none }) (v := ?v81) rfl (by kernel_rfl) (by kernel_rfl) (by kernel_rfl) (fun _ _ _ h => h) (Or.inl ⟨by rfl, ?hy81⟩) (by assumption) ?_
                                              case hy81 => (intro w hSw; (try dsimp only at hSw); go_simp; try with_reducible rfl)
                                              try simp only [Act.put, List.setIfInBounds_toArray, List.set_cons_zero, List.set_cons_succ]
                                              refine wpAnyH_take (i := 65) (oi := { dst := some 132, op := Go.Op.load 37 (Go.Operand.tmp 8), type := 37, pos := "law.go:212", after := #[{ on := 64, ground := Go.Ground.guard }], guard := some (64, true) }) (v := ?v82) rfl (by kernel_rfl) (by kernel_rfl) (by kernel_rfl) (fun _ _ _ h => h) (Or.inl ⟨by rfl, ?hy82⟩) (by assumption) ?_
                                              case hy82 => (intro w hSw; (try dsimp only at hSw); go_simp; try with_reducible rfl)
                                              try simp only [Act.put, List.setIfInBounds_toArray, List.set_cons_zero, List.set_cons_succ]
                                              refine wpAnyH_ready (rs := [66]) (by kernel_rfl) (by simp) ?_
                                              refine (AllReadyH.cons (i := 66) (o := { dst := some 133, op := Go.Op.call { callee := Go.Callee.value (Go.Operand.func 30), args := #[], argTypes := #[] }, type := 29, pos := "law.go:213", after := #[{ on := 64, ground := Go.Ground.chain }, { on := 64, ground := Go.Ground.guard }], guard := some (64, true) }) rfl (fun K' hK' => ?_) AllReadyH.nil)
                                              go_simp
                                              refine saw_any.mono ?_
                                              rintro e wR66 ⟨gR66, AR66, nR66, cR66, bR66, oR66, ccR66, A3R66, n3R66, c3R66, PR66, mR66, qR66, rfl, hbR66, hgR66, hsR66⟩
                                              try dsimp only
                                              refine hK'.out _ _ ?_ (fun hHeld => ?_)
                                              · exact K0 _ (by (repeat' first | with_reducible exact Below.refl _ _ | with_reducible assumption | with_reducible refine Bw.drew ?_ | with_reducible refine Bw.drewN ?_ _ | with_reducible refine bw_al ?_ _ | with_reducible refine Bw.then ?_ (by with_reducible assumption)))
                                              clear hK' K'
                                              try simp only [Act.put, List.setIfInBounds_toArray, List.set_cons_zero, List.set_cons_succ]
                                              have K1 : ∀ w', Bw wR66 w' → ((w'.cell? ⟨w3.heap.size, 0, none⟩ = some (.slice P3 p3 q3)) ∧ (w'.cell? ⟨w2.heap.size, 0, none⟩ = some (.int .i64 (-1)) ∧ w'.cell? ⟨w2.heap.size, 1, none⟩ = some (.bool false) ∧ w'.cell? ⟨w2.heap.size, 2, none⟩ = some (.bool true) ∧ w'.cell? ⟨w2.heap.size, 3, none⟩ = some (.bool false) ∧ w'.cell? ⟨w2.heap.size, 4, none⟩ = some (.slice A1 n1 c1) ∧ w'.cell? ⟨w2.heap.size, 5, none⟩ = some (.slice none 0 0)) ∧ (w'.cell? ⟨w2.heap.size + 1, 0, none⟩ = some (.int .i64 0) ∧ w'.cell? ⟨w2.heap.size + 1, 1, none⟩ = some (.bool false) ∧ w'.cell? ⟨w2.heap.size + 1, 2, none⟩ = some (.bool false) ∧ w'.cell? ⟨w2.heap.size + 1, 3, none⟩ = some (.bool true) ∧ w'.cell? ⟨w2.heap.size + 1, 4, none⟩ = some (.slice A2 n2 c2) ∧ w'.cell? ⟨w2.heap.size + 1, 5, none⟩ = some (.slice none 0 0)) ∧ (w'.cell? ⟨w7.heap.size, 0, none⟩ = some (.string cVP.1) ∧ w'.cell? ⟨w7.heap.size, 1, none⟩ = some (.slice U7 r7 s7)) ∧ (w'.cell? ⟨w10.heap.size, 0, none⟩ = some (.string cSaw.1) ∧ w'.cell? ⟨w10.heap.size, 1, none⟩ = some (.slice U10 r10 s10)) ∧ (w'.cell? ⟨w13.heap.size, 0, none⟩ = some (.string cThe.1) ∧ w'.cell? ⟨w13.heap.size, 1, none⟩ = some (.slice U13 r13 s13)) ∧ (w'.cell? ⟨gb, 0, none⟩ = some (.string cNo.1) ∧ w'.cell? ⟨gb, 1, none⟩ = some (.slice U14 n14 c14))) ∧ w'.cell? ⟨gR66, 2, none⟩ = some (.string cSaw.1) ∧ w'.cell? ⟨gR66, 3, none⟩ = some (.slice (some ⟨bR66, oR66, none⟩) 2 ccR66) := fun w' kk => ⟨K0 w' (Bw.then (show Bw w15 wR66 from (by (repeat' first | with_reducible exact Below.refl _ _ | with_reducible assumption | with_reducible refine Bw.drew ?_ | with_reducible refine Bw.drewN ?_ _ | with_reducible refine bw_al ?_ _ | with_reducible refine Bw.then ?_ (by with_reducible assumption)))) kk), bw_cell kk (by rw [cell_of_row _ _ 2 _ _ _ hsR66.row]; rfl), bw_cell kk (by rw [cell_of_row _ _ 3 _ _ _ hsR66.row]; rfl)⟩
                                              refine wpAnyH_S (S' := fun w' => ((w'.cell? ⟨w3.heap.size, 0, none⟩ = some (.slice P3 p3 q3)) ∧ (w'.cell? ⟨w2.heap.size, 0, none⟩ = some (.int .i64 (-1)) ∧ w'.cell? ⟨w2.heap.size, 1, none⟩ = some (.bool false) ∧ w'.cell? ⟨w2.heap.size, 2, none⟩ = some (.bool true) ∧ w'.cell? ⟨w2.heap.size, 3, none⟩ = some (.bool false) ∧ w'.cell? ⟨w2.heap.size, 4, none⟩ = some (.slice A1 n1 c1) ∧ w'.cell? ⟨w2.heap.size, 5, none⟩ = some (.slice none 0 0)) ∧ (w'.cell? ⟨w2.heap.size + 1, 0, none⟩ = some (.int .i64 0) ∧ w'.cell? ⟨w2.heap.size + 1, 1, none⟩ = some (.bool false) ∧ w'.cell? ⟨w2.heap.size + 1, 2, none⟩ = some (.bool false) ∧ w'.cell? ⟨w2.heap.size + 1, 3, none⟩ = some (.bool true) ∧ w'.cell? ⟨w2.heap.size + 1, 4, none⟩ = some (.slice A2 n2 c2) ∧ w'.cell? ⟨w2.heap.size + 1, 5, none⟩ = some (.slice none 0 0)) ∧ (w'.cell? ⟨w7.heap.size, 0, none⟩ = some (.string cVP.1) ∧ w'.cell? ⟨w7.heap.size, 1, none⟩ = some (.slice U7 r7 s7)) ∧ (w'.cell? ⟨w10.heap.size, 0, none⟩ = some (.string cSaw.1) ∧ w'.cell? ⟨w10.heap.size, 1, none⟩ = some (.slice U10 r10 s10)) ∧ (w'.cell? ⟨w13.heap.size, 0, none⟩ = some (.string cThe.1) ∧ w'.cell? ⟨w13.heap.size, 1, none⟩ = some (.slice U13 r13 s13)) ∧ (w'.cell? ⟨gb, 0, none⟩ = some (.string cNo.1) ∧ w'.cell? ⟨gb, 1, none⟩ = some (.slice U14 n14 c14))) ∧ w'.cell? ⟨gR66, 2, none⟩ = some (.string cSaw.1) ∧ w'.cell? ⟨gR66, 3, none⟩ = some (.slice (some ⟨bR66, oR66, none⟩) 2 ccR66)) (fun w' h => h.1) ?_
                                              have hHeld := K1 _ (Below.refl _ _)
                                              refine wpAnyH_take (i := 67) (oi := { dst := some 134, op := Go.Op.indexAddr 29 (Go.Operand.tmp 133) (Go.Operand.const (Go.Value.int Go.IntKind.i64 1)), type := 0, pos := "law.go:212", after := #[{ on := 66, ground := Go.Ground.data }, { on := 64, ground := Go.Ground.guard }], guard := some (64, true) }) (v := ?v83) rfl (by kernel_rfl) (by kernel_rfl) (by kernel_rfl) (fun _ _ _ h => h) (Or.inl ⟨by rfl, ?hy83⟩) (by assumption) ?_
                                              case hy83 => (intro w hSw; (try dsimp only at hSw); go_simp; try with_reducible rfl)
                                              try simp only [Act.put, List.setIfInBounds_toArray, List.set_cons_zero, List.set_cons_succ]
                                              refine wpAnyH_take (i := 68) (oi := { dst := some 135, op := Go.Op.load 37 (Go.Operand.tmp 134), type := 37, pos := "law.go:212", after := #[{ on := 67, ground := Go.Ground.data }, { on := 64, ground := Go.Ground.guard }], guard := some (64, true) }) (v := ?v84) rfl (by kernel_rfl) (by kernel_rfl) (by kernel_rfl) (fun _ _ _ h => h) (Or.inl ⟨by rfl, ?hy84⟩) (by assumption) ?_
                                              case hy84 => (intro w hSw; (try dsimp only at hSw); go_simp; try with_reducible rfl)
                                              try simp only [Act.put, List.setIfInBounds_toArray, List.set_cons_zero, List.set_cons_succ]
                                              as_aux_lemma =>
                                                refine wpAnyH_ready (rs := [69]) (by kernel_rfl) (by simp) ?_
                                                refine (AllReadyH.cons (i := 69) (o := { dst := some 136, op := Go.Op.call { callee := Go.Callee.value (Go.Operand.func 20), args := #[Go.Operand.tmp 132, Go.Operand.tmp 135], argTypes := #[37, 37] }, type := 4, pos := "law.go:213", after := #[{ on := 65, ground := Go.Ground.data }, { on := 68, ground := Go.Ground.data }, { on := 66, ground := Go.Ground.chain }, { on := 64, ground := Go.Ground.guard }], guard := some (64, true) }) rfl (fun K' hK' => ?_) AllReadyH.nil)
                                                go_simp
                                                refine (val_of (congrArg Value.bool Z9) (samec_any (f1 := cSaw.1) (f2 := cSaw.1) (d8.after (by (repeat' first | with_reducible exact Below.refl _ _ | with_reducible assumption | with_reducible refine Bw.drew ?_ | with_reducible refine Bw.drewN ?_ _ | with_reducible refine bw_al ?_ _ | with_reducible refine Bw.then ?_ (by with_reducible assumption)))) ((hsR66.after (by (repeat' first | with_reducible exact Below.refl _ _ | with_reducible assumption | with_reducible refine Bw.drew ?_ | with_reducible refine Bw.drewN ?_ _ | with_reducible refine bw_al ?_ _ | with_reducible refine Bw.then ?_ (by with_reducible assumption)))).s2.rd))).mono ?_
                                                rintro e wR69 ⟨rfl, hbR69⟩
                                                try dsimp only
                                                refine hK'.out _ _ ?_ (fun hHeld => ?_)
                                                · exact K1 _ (by (repeat' first | with_reducible exact Below.refl _ _ | with_reducible assumption | with_reducible refine Bw.drew ?_ | with_reducible refine Bw.drewN ?_ _ | with_reducible refine bw_al ?_ _ | with_reducible refine Bw.then ?_ (by with_reducible assumption)))
                                                clear hK' K'
                                                try simp only [Act.put, List.setIfInBounds_toArray, List.set_cons_zero, List.set_cons_succ]
                                                refine wpAnyH_take (i := 70) (oi := { dst := some 137, op := Go.Op.pick (Go.Operand.tmp 131) (Go.Operand.tmp 136) (Go.Operand.const (Go.Value.bool false)), type := 4, pos := "law.go:212", after := #[{ on := 64, ground := Go.Ground.data }, { on := 69, ground := Go.Ground.data }], guard := none }) (v := ?v85) rfl (by kernel_rfl) (by kernel_rfl) (by kernel_rfl) (fun _ _ _ h => h) (Or.inl ⟨by rfl, ?hy85⟩) (by assumption) ?_
                                                case hy85 => (intro w hSw; (try dsimp only at hSw); go_simp; try with_reducible rfl)
                                                try simp only [Act.put, List.setIfInBounds_toArray, List.set_cons_zero, List.set_cons_succ]
                                                refine wpAnyH_take (i := 71) (oi := { dst := some 138, op := Go.Op.move (Go.Operand.tmp 137), type := 4, pos := "law.go:212", after := #[{ on := 70, ground := Go.Ground.data }, { on := 69, ground := Go.Ground.chain }], guard := none }) (v := ?v86) rfl (by kernel_rfl) (by kernel_rfl) (by kernel_rfl) (fun _ _ _ h => h) (Or.inl ⟨by rfl, ?hy86⟩) (by assumption) ?_
                                                case hy86 => (intro w hSw; (try dsimp only at hSw); go_simp; try with_reducible rfl)
                                                try simp only [Act.put, List.setIfInBounds_toArray, List.set_cons_zero, List.set_cons_succ]
                                                as_aux_lemma =>
                                                  refine wpAnyH_take (i := 72) (oi := { dst := some 139, op := Go.Op.move (Go.Operand.tmp 13), type := 38, pos := "law.go:212", after := #[{ on := 71, ground := Go.Ground.guard }], guard := some (71, true) }) (v := ?v87) rfl (by kernel_rfl) (by kernel_rfl) (by kernel_rfl) (fun _ _ _ h => h) (Or.inl ⟨by rfl, ?hy87⟩) (by assumption) ?_
                                                  case hy87 => (intro w hSw; (try dsimp only at hSw); go_simp; try with_reducible rfl)
                                                  try simp only [Act.put, List.setIfInBounds_toArray, List.set_cons_zero, List.set_cons_succ]
                                                  refine wpAnyH_take (i := 73) (oi := { dst := some 140, op := Go.Op.binOp Go.BinOp.eql 38 (Go.Operand.tmp 139) (Go.Operand.const (Go.Value.int Go.IntKind.i64 0)) 38, type := 4, pos := "law.go:212", after := #[{ on := 72, ground := Go.Ground.data }, { on := 71, ground := Go.Ground.guard }], guard := some (71, true) }) (v := ?v88) rfl (by kernel_rfl) (by kernel_rfl) (by kernel_rfl) (fun _ _ _ h => h) (Or.inl ⟨by rfl, ?hy88⟩) (by assumption) ?_
                                                  case hy88 => (intro w hSw; (try dsimp only at hSw); go_simp; try with_reducible rfl)
                                                  try simp only [Act.put, List.setIfInBounds_toArray, List.set_cons_zero, List.set_cons_succ]
                                                  refine wpAnyH_take (i := 74) (oi := { dst := some 141, op := Go.Op.pick (Go.Operand.tmp 138) (Go.Operand.tmp 140) (Go.Operand.const (Go.Value.bool false)), type := 4, pos := "law.go:212", after := #[{ on := 71, ground := Go.Ground.data }, { on := 73, ground := Go.Ground.data }], guard := none }) (v := ?v89) rfl (by kernel_rfl) (by kernel_rfl) (by kernel_rfl) (fun _ _ _ h => h) (Or.inl ⟨by rfl, ?hy89⟩) (by assumption) ?_
                                                  case hy89 => (intro w hSw; (try dsimp only at hSw); go_simp; try with_reducible rfl)
                                                  try simp only [Act.put, List.setIfInBounds_toArray, List.set_cons_zero, List.set_cons_succ]
                                                  refine wpAnyH_take (i := 75) (oi := { dst := some 142, op := Go.Op.move (Go.Operand.tmp 141), type := 4, pos := "law.go:212", after := #[{ on := 74, ground := Go.Ground.data }, { on := 71, ground := Go.Ground.chain }], guard := none }) (v := ?v90) rfl (by kernel_rfl) (by kernel_rfl) (by kernel_rfl) (fun _ _ _ h => h) (Or.inl ⟨by rfl, ?hy90⟩) (by assumption) ?_
                                                  case hy90 => (intro w hSw; (try dsimp only at hSw); go_simp; try with_reducible rfl)
                                                  try simp only [Act.put, List.setIfInBounds_toArray, List.set_cons_zero, List.set_cons_succ]
                                                  refine wpAnyH_take (i := 76) (oi := { dst := some 143, op := Go.Op.move (Go.Operand.tmp 12), type := 4, pos := "law.go:212", after := #[{ on := 75, ground := Go.Ground.guard }], guard := some (75, true) }) (v := ?v91) rfl (by kernel_rfl) (by kernel_rfl) (by kernel_rfl) (fun _ _ _ h => h) (Or.inl ⟨by rfl, ?hy91⟩) (by assumption) ?_
                                                  case hy91 => (intro w hSw; (try dsimp only at hSw); go_simp; try with_reducible rfl)
                                                  try simp only [Act.put, List.setIfInBounds_toArray, List.set_cons_zero, List.set_cons_succ]
                                                  refine wpAnyH_take (i := 77) (oi := { dst := some 144, op := Go.Op.unOp Go.UnOp.not 4 (Go.Operand.tmp 143), type := 4, pos := "law.go:212", after := #[{ on := 76, ground := Go.Ground.data }, { on := 75, ground := Go.Ground.guard }], guard := some (75, true) }) (v := ?v92) rfl (by kernel_rfl) (by kernel_rfl) (by kernel_rfl) (fun _ _ _ h => h) (Or.inl ⟨by rfl, ?hy92⟩) (by assumption) ?_
                                                  case hy92 => (intro w hSw; (try dsimp only at hSw); go_simp; try with_reducible rfl)
                                                  try simp only [Act.put, List.setIfInBounds_toArray, List.set_cons_zero, List.set_cons_succ]
                                                  as_aux_lemma =>
                                                    refine wpAnyH_take (i := 78) (oi := { dst := some 145, op := Go.Op.pick (Go.Operand.tmp 142) (Go.Operand.tmp 144) (Go.Operand.const (Go.Value.bool false)), type := 4, pos := "law.go:212", after := #[{ on := 75, ground := Go.Ground.data }, { on := 77, ground := Go.Ground.data }], guard := none }) (v := ?v93) rfl (by kernel_rfl) (by kernel_rfl) (by kernel_rfl) (fun _ _ _ h => h) (Or.inl ⟨by rfl, ?hy93⟩) (by assumption) ?_
                                                    case hy93 => (intro w hSw; (try dsimp only at hSw); go_simp; try with_reducible rfl)
                                                    try simp only [Act.put, List.setIfInBounds_toArray, List.set_cons_zero, List.set_cons_succ]
                                                    refine wpAnyH_take (i := 79) (oi := { dst := some 146, op := Go.Op.move (Go.Operand.tmp 145), type := 4, pos := "law.go:212", after := #[{ on := 78, ground := Go.Ground.data }, { on := 75, ground := Go.Ground.chain }], guard := none }) (v := ?v94) rfl (by kernel_rfl) (by kernel_rfl) (by kernel_rfl) (fun _ _ _ h => h) (Or.inl ⟨by rfl, ?hy94⟩) (by assumption) ?_
                                                    case hy94 => (intro w hSw; (try dsimp only at hSw); go_simp; try with_reducible rfl)
                                                    try simp only [Act.put, List.setIfInBounds_toArray, List.set_cons_zero, List.set_cons_succ]
                                                    refine wpAnyH_take (i := 80) (oi := { dst := some 147, op := Go.Op.load 37 (Go.Operand.tmp 11), type := 37, pos := "law.go:212", after := #[{ on := 79, ground := Go.Ground.guard }], guard := some (79, true) }) (v := ?v95) rfl (by kernel_rfl) (by kernel_rfl) (by kernel_rfl) (fun _ _ _ h => h) (Or.inl ⟨by rfl, ?hy95⟩) (by assumption) ?_
                                                    case hy95 => (intro w hSw; (try dsimp only at hSw); go_simp; try with_reducible rfl)
                                                    try simp only [Act.put, List.setIfInBounds_toArray, List.set_cons_zero, List.set_cons_succ]
                                                    refine wpAnyH_ready (rs := [81]) (by kernel_rfl) (by simp) ?_
                                                    refine (AllReadyH.cons (i := 81) (o := { dst := some 148, op := Go.Op.call { callee := Go.Callee.value (Go.Operand.func 30), args := #[], argTypes := #[] }, type := 29, pos := "law.go:213", after := #[{ on := 79, ground := Go.Ground.chain }, { on := 79, ground := Go.Ground.guard }], guard := some (79, true) }) rfl (fun K' hK' => ?_) AllReadyH.nil)
                                                    go_simp
                                                    refine saw_any.mono ?_
                                                    rintro e wR81 ⟨gR81, AR81, nR81, cR81, bR81, oR81, ccR81, A3R81, n3R81, c3R81, PR81, mR81, qR81, rfl, hbR81, hgR81, hsR81⟩
                                                    try dsimp only
                                                    refine hK'.out _ _ ?_ (fun hHeld => ?_)
                                                    · exact K1 _ (by (repeat' first | with_reducible exact Below.refl _ _ | with_reducible assumption | with_reducible refine Bw.drew ?_ | with_reducible refine Bw.drewN ?_ _ | with_reducible refine bw_al ?_ _ | with_reducible refine Bw.then ?_ (by with_reducible assumption)))
                                                    clear hK' K'
                                                    try simp only [Act.put, List.setIfInBounds_toArray, List.set_cons_zero, List.set_cons_succ]
                                                    have K2 : ∀ w', Bw wR81 w' → (((w'.cell? ⟨w3.heap.size, 0, none⟩ = some (.slice P3 p3 q3)) ∧ (w'.cell? ⟨w2.heap.size, 0, none⟩ = some (.int .i64 (-1)) ∧ w'.cell? ⟨w2.heap.size, 1, none⟩ = some (.bool false) ∧ w'.cell? ⟨w2.heap.size, 2, none⟩ = some (.bool true) ∧ w'.cell? ⟨w2.heap.size, 3, none⟩ = some (.bool false) ∧ w'.cell? ⟨w2.heap.size, 4, none⟩ = some (.slice A1 n1 c1) ∧ w'.cell? ⟨w2.heap.size, 5, none⟩ = some (.slice none 0 0)) ∧ (w'.cell? ⟨w2.heap.size + 1, 0, none⟩ = some (.int .i64 0) ∧ w'.cell? ⟨w2.heap.size + 1, 1, none⟩ = some (.bool false) ∧ w'.cell? ⟨w2.heap.size + 1, 2, none⟩ = some (.bool false) ∧ w'.cell? ⟨w2.heap.size + 1, 3, none⟩ = some (.bool true) ∧ w'.cell? ⟨w2.heap.size + 1, 4, none⟩ = some (.slice A2 n2 c2) ∧ w'.cell? ⟨w2.heap.size + 1, 5, none⟩ = some (.slice none 0 0)) ∧ (w'.cell? ⟨w7.heap.size, 0, none⟩ = some (.string cVP.1) ∧ w'.cell? ⟨w7.heap.size, 1, none⟩ = some (.slice U7 r7 s7)) ∧ (w'.cell? ⟨w10.heap.size, 0, none⟩ = some (.string cSaw.1) ∧ w'.cell? ⟨w10.heap.size, 1, none⟩ = some (.slice U10 r10 s10)) ∧ (w'.cell? ⟨w13.heap.size, 0, none⟩ = some (.string cThe.1) ∧ w'.cell? ⟨w13.heap.size, 1, none⟩ = some (.slice U13 r13 s13)) ∧ (w'.cell? ⟨gb, 0, none⟩ = some (.string cNo.1) ∧ w'.cell? ⟨gb, 1, none⟩ = some (.slice U14 n14 c14))) ∧ w'.cell? ⟨gR66, 2, none⟩ = some (.string cSaw.1) ∧ w'.cell? ⟨gR66, 3, none⟩ = some (.slice (some ⟨bR66, oR66, none⟩) 2 ccR66)) ∧ w'.cell? ⟨gR81, 0, none⟩ = some (.string cThe.1) ∧ w'.cell? ⟨gR81, 1, none⟩ = some (.slice AR81 nR81 cR81) := fun w' kk => ⟨K1 w' (Bw.then (show Bw wR66 wR81 from (by (repeat' first | with_reducible exact Below.refl _ _ | with_reducible assumption | with_reducible refine Bw.drew ?_ | with_reducible refine Bw.drewN ?_ _ | with_reducible refine bw_al ?_ _ | with_reducible refine Bw.then ?_ (by with_reducible assumption)))) kk), bw_cell kk (by rw [cell_of_row _ _ 0 _ _ _ hsR81.row]; rfl), bw_cell kk (by rw [cell_of_row _ _ 1 _ _ _ hsR81.row]; rfl)⟩
                                                    refine wpAnyH_S (S' := fun w' => (((w'.cell? ⟨w3.heap.size, 0, none⟩ = some (.slice P3 p3 q3)) ∧ (w'.cell? ⟨w2.heap.size, 0, none⟩ = some (.int .i64 (-1)) ∧ w'.cell? ⟨w2.heap.size, 1, none⟩ = some (.bool false) ∧ w'.cell? ⟨w2.heap.size, 2, none⟩ = some (.bool true) ∧ w'.cell? ⟨w2.heap.size, 3, none⟩ = some (.bool false) ∧ w'.cell? ⟨w2.heap.size, 4, none⟩ = some (.slice A1 n1 c1) ∧ w'.cell? ⟨w2.heap.size, 5, none⟩ = some (.slice none 0 0)) ∧ (w'.cell? ⟨w2.heap.size + 1, 0, none⟩ = some (.int .i64 0) ∧ w'.cell? ⟨w2.heap.size + 1, 1, none⟩ = some (.bool false) ∧ w'.cell? ⟨w2.heap.size + 1, 2, none⟩ = some (.bool false) ∧ w'.cell? ⟨w2.heap.size + 1, 3, none⟩ = some (.bool true) ∧ w'.cell? ⟨w2.heap.size + 1, 4, none⟩ = some (.slice A2 n2 c2) ∧ w'.cell? ⟨w2.heap.size + 1, 5, none⟩ = some (.slice none 0 0)) ∧ (w'.cell? ⟨w7.heap.size, 0, none⟩ = some (.string cVP.1) ∧ w'.cell? ⟨w7.heap.size, 1, none⟩ = some (.slice U7 r7 s7)) ∧ (w'.cell? ⟨w10.heap.size, 0, none⟩ = some (.string cSaw.1) ∧ w'.cell? ⟨w10.heap.size, 1, none⟩ = some (.slice U10 r10 s10)) ∧ (w'.cell? ⟨w13.heap.size, 0, none⟩ = some (.string cThe.1) ∧ w'.cell? ⟨w13.heap.size, 1, none⟩ = some (.slice U13 r13 s13)) ∧ (w'.cell? ⟨gb, 0, none⟩ = some (.string cNo.1) ∧ w'.cell? ⟨gb, 1, none⟩ = some (.slice U14 n14 c14))) ∧ w'.cell? ⟨gR66, 2, none⟩ = some (.string cSaw.1) ∧ w'.cell? ⟨gR66, 3, none⟩ = some (.slice (some ⟨bR66, oR66, none⟩) 2 ccR66)) ∧ w'.cell? ⟨gR81, 0, none⟩ = some (.string cThe.1) ∧ w'.cell? ⟨gR81, 1, none⟩ = some (.slice AR81 nR81 cR81)) (fun w' h => h.1) ?_
                                                    have hHeld := K2 _ (Below.refl _ _)
                                                    refine wpAnyH_take (i := 82) (oi := { dst := some 149, op := Go.Op.indexAddr 29 (Go.Operand.tmp 148) (Go.Operand.const (Go.Value.int Go.IntKind.i64 0)), type := 0, pos := "law.go:212", after := #[{ on := 81, ground := Go.Ground.data }, { on := 79, ground := Go.Ground.guard }], guard := some (79, true) }) (v := ?v96) rfl (by kernel_rfl) (by kernel_rfl) (by kernel_rfl) (fun _ _ _ h => h) (Or.inl ⟨by rfl, ?hy96⟩) (by assumption) ?_
                                                    case hy96 => (intro w hSw; (try dsimp only at hSw); go_simp; try with_reducible rfl)
                                                    try simp only [Act.put, List.setIfInBounds_toArray, List.set_cons_zero, List.set_cons_succ]
                                                    refine wpAnyH_take (i := 83) (oi := { dst := some 150, op := Go.Op.load 37 (Go.Operand.tmp 149), type := 37, pos := "law.go:212", after := #[{ on := 82, ground := Go.Ground.data }, { on := 79, ground := Go.Ground.guard }], guard := some (79, true) }) (v := ?v97) rfl (by kernel_rfl) (by kernel_rfl) (by kernel_rfl) (fun _ _ _ h => h) (Or.inl ⟨by rfl, ?hy97⟩) (by assumption) ?_
                                                    case hy97 => (intro w hSw; (try dsimp only at hSw); go_simp; try with_reducible rfl)
                                                    try simp only [Act.put, List.setIfInBounds_toArray, List.set_cons_zero, List.set_cons_succ]
                                                    as_aux_lemma =>
                                                      refine wpAnyH_ready (rs := [84]) (by kernel_rfl) (by simp) ?_
                                                      refine (AllReadyH.cons (i := 84) (o := { dst := some 151, op := Go.Op.call { callee := Go.Callee.value (Go.Operand.func 20), args := #[Go.Operand.tmp 147, Go.Operand.tmp 150], argTypes := #[37, 37] }, type := 4, pos := "law.go:213", after := #[{ on := 80, ground := Go.Ground.data }, { on := 83, ground := Go.Ground.data }, { on := 81, ground := Go.Ground.chain }, { on := 79, ground := Go.Ground.guard }], guard := some (79, true) }) rfl (fun K' hK' => ?_) AllReadyH.nil)
                                                      go_simp
                                                      refine (val_of (congrArg Value.bool ZA) (samec_any (f1 := cThe.1) (f2 := cThe.1) (d11.after (by (repeat' first | with_reducible exact Below.refl _ _ | with_reducible assumption | with_reducible refine Bw.drew ?_ | with_reducible refine Bw.drewN ?_ _ | with_reducible refine bw_al ?_ _ | with_reducible refine Bw.then ?_ (by with_reducible assumption)))) ((hsR81.after (by (repeat' first | with_reducible exact Below.refl _ _ | with_reducible assumption | with_reducible refine Bw.drew ?_ | with_reducible refine Bw.drewN ?_ _ | with_reducible refine bw_al ?_ _ | with_reducible refine Bw.then ?_ (by with_reducible assumption)))).s1.rd))).mono ?_
                                                      rintro e wR84 ⟨rfl, hbR84⟩
                                                      try dsimp only
                                                      refine hK'.out _ _ ?_ (fun hHeld => ?_)
                                                      · exact K2 _ (by (repeat' first | with_reducible exact Below.refl _ _ | with_reducible assumption | with_reducible refine Bw.drew ?_ | with_reducible refine Bw.drewN ?_ _ | with_reducible refine bw_al ?_ _ | with_reducible refine Bw.then ?_ (by with_reducible assumption)))
                                                      clear hK' K'
                                                      try simp only [Act.put, List.setIfInBounds_toArray, List.set_cons_zero, List.set_cons_succ]
                                                      refine wpAnyH_take (i := 85) (oi := { dst := some 152, op := Go.Op.pick (Go.Operand.tmp 146) (Go.Operand.tmp 151) (Go.Operand.const (Go.Value.bool false)), type := 4, pos := "law.go:212", after := #[{ on := 79, ground := Go.Ground.data }, { on := 84, ground := Go.Ground.data }], guard := none }) (v := ?v98) rfl (by kernel_rfl) (by kernel_rfl) (by kernel_rfl) (fun _ _ _ h => h) (Or.inl ⟨by rfl, ?hy98⟩) (by assumption) ?_
                                                      case hy98 => (intro w hSw; (try dsimp only at hSw); go_simp; try with_reducible rfl)
                                                      try simp only [Act.put, List.setIfInBounds_toArray, List.set_cons_zero, List.set_cons_succ]
                                                      refine wpAnyH_take (i := 86) (oi := { dst := some 153, op := Go.Op.move (Go.Operand.tmp 152), type := 4, pos := "law.go:212", after := #[{ on := 85, ground := Go.Ground.data }, { on := 84, ground := Go.Ground.chain }], guard := none }) (v := ?v99) rfl (by kernel_rfl) (by kernel_rfl) (by kernel_rfl) (fun _ _ _ h => h) (Or.inl ⟨by rfl, ?hy99⟩) (by assumption) ?_
                                                      case hy99 => (intro w hSw; (try dsimp only at hSw); go_simp; try with_reducible rfl)
                                                      try simp only [Act.put, List.setIfInBounds_toArray, List.set_cons_zero, List.set_cons_succ]
                                                      refine wpAnyH_take (i := 87) (oi := { dst := some 154, op := Go.Op.move (Go.Operand.tmp 16), type := 38, pos := "law.go:212", after := #[{ on := 86, ground := Go.Ground.guard }], guard := some (86, true) }) (v := ?v100) rfl (by kernel_rfl) (by kernel_rfl) (by kernel_rfl) (fun _ _ _ h => h) (Or.inl ⟨by rfl, ?hy100⟩) (by assumption) ?_
                                                      case hy100 => (intro w hSw; (try dsimp only at hSw); go_simp; try with_reducible rfl)
                                                      try simp only [Act.put, List.setIfInBounds_toArray, List.set_cons_zero, List.set_cons_succ]
                                                      refine wpAnyH_take (i := 88) (oi := { dst := some 155, op := Go.Op.binOp Go.BinOp.eql 38 (Go.Operand.tmp 154) (Go.Operand.const (Go.Value.int Go.IntKind.i64 0)) 38, type := 4, pos := "law.go:212", after := #[{ on := 87, ground := Go.Ground.data }, { on := 86, ground := Go.Ground.guard }], guard := some (86, true) }) (v := ?v101) rfl (by kernel_rfl) (by kernel_rfl) (by kernel_rfl) (fun _ _ _ h => h) (Or.inl ⟨by rfl, ?hy101⟩) (by assumption) ?_
                                                      case hy101 => (intro w hSw; (try dsimp only at hSw); go_simp; try with_reducible rfl)
                                                      try simp only [Act.put, List.setIfInBounds_toArray, List.set_cons_zero, List.set_cons_succ]
                                                      refine wpAnyH_take (i := 89) (oi := { dst := some 156, op := Go.Op.pick (Go.Operand.tmp 153) (Go.Operand.tmp 155) (Go.Operand.const (Go.Value.bool false)), type := 4, pos := "law.go:212", after := #[{ on := 86, ground := Go.Ground.data }, { on := 88, ground := Go.Ground.data }], guard := none }) (v := ?v102) rfl (by kernel_rfl) (by kernel_rfl) (by kernel_rfl) (fun _ _ _ h => h) (Or.inl ⟨by rfl, ?hy102⟩) (by assumption) ?_
                                                      case hy102 => (intro w hSw; (try dsimp only at hSw); go_simp; try with_reducible rfl)
                                                      try simp only [Act.put, List.setIfInBounds_toArray, List.set_cons_zero, List.set_cons_succ]
                                                      as_aux_lemma =>
                                                        refine wpAnyH_take (i := 90) (oi := { dst := some 157, op := Go.Op.move (Go.Operand.tmp 156), type := 4, pos := "law.go:212", after := #[{ on := 89, ground := Go.Ground.data }, { on := 86, ground := Go.Ground.chain }], guard := none }) (v := ?v103) rfl (by kernel_rfl) (by kernel_rfl) (by kernel_rfl) (fun _ _ _ h => h) (Or.inl ⟨by rfl, ?hy103⟩) (by assumption) ?_
                                                        case hy103 => (intro w hSw; (try dsimp only at hSw); go_simp; try with_reducible rfl)
                                                        try simp only [Act.put, List.setIfInBounds_toArray, List.set_cons_zero, List.set_cons_succ]
                                                        refine wpAnyH_take (i := 91) (oi := { dst := some 158, op := Go.Op.move (Go.Operand.tmp 15), type := 4, pos := "law.go:212", after := #[{ on := 90, ground := Go.Ground.guard }], guard := some (90, true) }) (v := ?v104) rfl (by kernel_rfl) (by kernel_rfl) (by kernel_rfl) (fun _ _ _ h => h) (Or.inl ⟨by rfl, ?hy104⟩) (by assumption) ?_
                                                        case hy104 => (intro w hSw; (try dsimp only at hSw); go_simp; try with_reducible rfl)
                                                        try simp only [Act.put, List.setIfInBounds_toArray, List.set_cons_zero, List.set_cons_succ]
                                                        refine wpAnyH_take (i := 92) (oi := { dst := some 159, op := Go.Op.pick (Go.Operand.tmp 157) (Go.Operand.tmp 158) (Go.Operand.const (Go.Value.bool false)), type := 4, pos := "law.go:212", after := #[{ on := 90, ground := Go.Ground.data }, { on := 91, ground := Go.Ground.data }], guard := none }) (v := ?v105) rfl (by kernel_rfl) (by kernel_rfl) (by kernel_rfl) (fun _ _ _ h => h) (Or.inl ⟨by rfl, ?hy105⟩) (by assumption) ?_
                                                        case hy105 => (intro w hSw; (try dsimp only at hSw); go_simp; try with_reducible rfl)
                                                        try simp only [Act.put, List.setIfInBounds_toArray, List.set_cons_zero, List.set_cons_succ]
                                                        refine wpAnyH_take (i := 93) (oi := { dst := some 160, op := Go.Op.move (Go.Operand.tmp 159), type := 4, pos := "law.go:212", after := #[{ on := 92, ground := Go.Ground.data }, { on := 90, ground := Go.Ground.chain }], guard := none }) (v := ?v106) rfl (by kernel_rfl) (by kernel_rfl) (by kernel_rfl) (fun _ _ _ h => h) (Or.inl ⟨by rfl, ?hy106⟩) (by assumption) ?_
                                                        case hy106 => (intro w hSw; (try dsimp only at hSw); go_simp; try with_reducible rfl)
                                                        try simp only [Act.put, List.setIfInBounds_toArray, List.set_cons_zero, List.set_cons_succ]
                                                        refine wpAnyH_take (i := 94) (oi := { dst := some 161, op := Go.Op.load 37 (Go.Operand.tmp 14), type := 37, pos := "law.go:212", after := #[{ on := 93, ground := Go.Ground.guard }], guard := some (93, true) }) (v := ?v107) rfl (by kernel_rfl) (by kernel_rfl) (by kernel_rfl) (fun _ _ _ h => h) (Or.inl ⟨by rfl, ?hy107⟩) (by assumption) ?_
                                                        case hy107 => (intro w hSw; (try dsimp only at hSw); go_simp; try with_reducible rfl)
                                                        try simp only [Act.put, List.setIfInBounds_toArray, List.set_cons_zero, List.set_cons_succ]
                                                        refine wpAnyH_ready (rs := [95]) (by kernel_rfl) (by simp) ?_
                                                        refine (AllReadyH.cons (i := 95) (o := { dst := some 162, op := Go.Op.call { callee := Go.Callee.value (Go.Operand.func 32), args := #[Go.Operand.const (Go.Value.string { data := #[116, 104, 101] }), Go.Operand.const (Go.Value.slice none 0 0)], argTypes := #[9, 70] }, type := 37, pos := "law.go:213", after := #[{ on := 93, ground := Go.Ground.chain }, { on := 93, ground := Go.Ground.guard }], guard := some (93, true) }) rfl (fun K' hK' => ?_) AllReadyH.nil)
                                                        go_simp
                                                        refine (cohort_any (fm := cThe.1) (rs := []) ((rdNil : Rd tRdg _ _ [])) (fun b hb => hb) (by decide)).mono ?_
                                                        rintro e wR95 ⟨uR95, rfl, hbR95, huR95⟩
                                                        obtain ⟨TR95, tn95, tc95, rfl, _, _, _⟩ := huR95.form'
                                                        try dsimp only
                                                        refine hK'.out _ _ ?_ (fun hHeld => ?_)
                                                        · exact K2 _ (by (repeat' first | with_reducible exact Below.refl _ _ | with_reducible assumption | with_reducible refine Bw.drew ?_ | with_reducible refine Bw.drewN ?_ _ | with_reducible refine bw_al ?_ _ | with_reducible refine Bw.then ?_ (by with_reducible assumption)))
                                                        clear hK' K'
                                                        try simp only [Act.put, List.setIfInBounds_toArray, List.set_cons_zero, List.set_cons_succ]
                                                        as_aux_lemma =>
                                                          refine wpAnyH_ready (rs := [96]) (by kernel_rfl) (by simp) ?_
                                                          refine (AllReadyH.cons (i := 96) (o := { dst := some 163, op := Go.Op.call { callee := Go.Callee.value (Go.Operand.func 20), args := #[Go.Operand.tmp 161, Go.Operand.tmp 162], argTypes := #[37, 37] }, type := 4, pos := "law.go:213", after := #[{ on := 94, ground := Go.Ground.data }, { on := 95, ground := Go.Ground.data }, { on := 95, ground := Go.Ground.chain }, { on := 93, ground := Go.Ground.guard }], guard := some (93, true) }) rfl (fun K' hK' => ?_) AllReadyH.nil)
                                                          go_simp
                                                          refine (val_of (congrArg Value.bool ZB) (samec_any (f1 := cNo.1) (f2 := cThe.1) (d14.after (by (repeat' first | with_reducible exact Below.refl _ _ | with_reducible assumption | with_reducible refine Bw.drew ?_ | with_reducible refine Bw.drewN ?_ _ | with_reducible refine bw_al ?_ _ | with_reducible refine Bw.then ?_ (by with_reducible assumption)))) (huR95.rd.after (by (repeat' first | with_reducible exact Below.refl _ _ | with_reducible assumption | with_reducible refine Bw.drew ?_ | with_reducible refine Bw.drewN ?_ _ | with_reducible refine bw_al ?_ _ | with_reducible refine Bw.then ?_ (by with_reducible assumption)))))).mono ?_
                                                          rintro e wR96 ⟨rfl, hbR96⟩
                                                          try dsimp only
                                                          refine hK'.out _ _ ?_ (fun hHeld => ?_)
                                                          · exact K2 _ (by (repeat' first | with_reducible exact Below.refl _ _ | with_reducible assumption | with_reducible refine Bw.drew ?_ | with_reducible refine Bw.drewN ?_ _ | with_reducible refine bw_al ?_ _ | with_reducible refine Bw.then ?_ (by with_reducible assumption)))
                                                          clear hK' K'
                                                          try simp only [Act.put, List.setIfInBounds_toArray, List.set_cons_zero, List.set_cons_succ]
                                                          refine wpAnyH_take (i := 97) (oi := { dst := some 164, op := Go.Op.pick (Go.Operand.tmp 160) (Go.Operand.tmp 163) (Go.Operand.const (Go.Value.bool false)), type := 4, pos := "law.go:212", after := #[{ on := 93, ground := Go.Ground.data }, { on := 96, ground := Go.Ground.data }], guard := none }) (v := ?v108) rfl (by kernel_rfl) (by kernel_rfl) (by kernel_rfl) (fun _ _ _ h => h) (Or.inl ⟨by rfl, ?hy108⟩) (by assumption) ?_
                                                          case hy108 => (intro w hSw; (try dsimp only at hSw); go_simp; try with_reducible rfl)
                                                          try simp only [Act.put, List.setIfInBounds_toArray, List.set_cons_zero, List.set_cons_succ]
                                                          refine wpAnyH_take (i := 98) (oi := { dst := some 165, op := Go.Op.move (Go.Operand.tmp 164), type := 4, pos := "law.go:212", after := #[{ on := 97, ground := Go.Ground.data }, { on := 96, ground := Go.Ground.chain }], guard := none }) (v := ?v109) rfl (by kernel_rfl) (by kernel_rfl) (by kernel_rfl) (fun _ _ _ h => h) (Or.inl ⟨by rfl, ?hy109⟩) (by assumption) ?_
                                                          case hy109 => (intro w hSw; (try dsimp only at hSw); go_simp; try with_reducible rfl)
                                                          try simp only [Act.put, List.setIfInBounds_toArray, List.set_cons_zero, List.set_cons_succ]
                                                          refine wpAnyH_take (i := 99) (oi := { dst := some 166, op := Go.Op.move (Go.Operand.tmp 19), type := 38, pos := "law.go:212", after := #[{ on := 98, ground := Go.Ground.guard }], guard := some (98, true) }) (v := ?v110) rfl (by kernel_rfl) (by kernel_rfl) (by kernel_rfl) (fun _ _ _ h => h) (Or.inl ⟨by rfl, ?hy110⟩) (by assumption) ?_
                                                          case hy110 => (intro w hSw; (try dsimp only at hSw); go_simp; try with_reducible rfl)
                                                          try simp only [Act.put, List.setIfInBounds_toArray, List.set_cons_zero, List.set_cons_succ]
                                                          refine wpAnyH_take (i := 100) (oi := { dst := some 167, op := Go.Op.binOp Go.BinOp.eql 38 (Go.Operand.tmp 166) (Go.Operand.const (Go.Value.int Go.IntKind.i64 1)) 38, type := 4, pos := "law.go:212", after := #[{ on := 99, ground := Go.Ground.data }, { on := 98, ground := Go.Ground.guard }], guard := some (98, true) }) (v := ?v111) rfl (by kernel_rfl) (by kernel_rfl) (by kernel_rfl) (fun _ _ _ h => h) (Or.inl ⟨by rfl, ?hy111⟩) (by assumption) ?_
                                                          case hy111 => (intro w hSw; (try dsimp only at hSw); go_simp; try with_reducible rfl)
                                                          try simp only [Act.put, List.setIfInBounds_toArray, List.set_cons_zero, List.set_cons_succ]
                                                          refine wpAnyH_take (i := 101) (oi := { dst := some 168, op := Go.Op.pick (Go.Operand.tmp 165) (Go.Operand.tmp 167) (Go.Operand.const (Go.Value.bool false)), type := 4, pos := "law.go:212", after := #[{ on := 98, ground := Go.Ground.data }, { on := 100, ground := Go.Ground.data }], guard := none }) (v := ?v112) rfl (by kernel_rfl) (by kernel_rfl) (by kernel_rfl) (fun _ _ _ h => h) (Or.inl ⟨by rfl, ?hy112⟩) (by assumption) ?_
                                                          case hy112 => (intro w hSw; (try dsimp only at hSw); go_simp; try with_reducible rfl)
                                                          try simp only [Act.put, List.setIfInBounds_toArray, List.set_cons_zero, List.set_cons_succ]
                                                          as_aux_lemma =>
                                                            refine wpAnyH_take (i := 102) (oi := { dst := some 169, op := Go.Op.move (Go.Operand.tmp 168), type := 4, pos := "law.go:212", after := #[{ on := 101, ground := Go.Ground.data }, { on := 98, ground := Go.Ground.chain }], guard := none }) (v := ?v113) rfl (by kernel_rfl) (by kernel_rfl) (by kernel_rfl) (fun _ _ _ h => h) (Or.inl ⟨by rfl, ?hy113⟩) (by assumption) ?_
                                                            case hy113 => (intro w hSw; (try dsimp only at hSw); go_simp; try with_reducible rfl)
                                                            try simp only [Act.put, List.setIfInBounds_toArray, List.set_cons_zero, List.set_cons_succ]
                                                            as_aux_lemma =>
                                                              refine wpAnyH_ready (rs := [103]) (by kernel_rfl) (by simp) ?_
                                                              refine (AllReadyH.cons (i := 103) (o := { dst := some 170, op := Go.Op.call { callee := Go.Callee.value (Go.Operand.func 12), args := #[], argTypes := #[] }, type := 4, pos := "law.go:213", after := #[{ on := 102, ground := Go.Ground.chain }, { on := 102, ground := Go.Ground.guard }], guard := some (102, true) }) rfl (fun K' hK' => ?_) AllReadyH.nil)
                                                              go_simp
                                                              refine (example_any (hTy.after (by (repeat' first | with_reducible exact Below.refl _ _ | with_reducible assumption | with_reducible refine Bw.drew ?_ | with_reducible refine Bw.drewN ?_ _ | with_reducible refine bw_al ?_ _ | with_reducible refine Bw.then ?_ (by with_reducible assumption))))).mono ?_
                                                              rintro e wR103 ⟨rfl, hbR103⟩
                                                              try dsimp only
                                                              refine hK'.out _ _ ?_ (fun hHeld => ?_)
                                                              · exact K2 _ (by (repeat' first | with_reducible exact Below.refl _ _ | with_reducible assumption | with_reducible refine Bw.drew ?_ | with_reducible refine Bw.drewN ?_ _ | with_reducible refine bw_al ?_ _ | with_reducible refine Bw.then ?_ (by with_reducible assumption)))
                                                              clear hK' K'
                                                              try simp only [Act.put, List.setIfInBounds_toArray, List.set_cons_zero, List.set_cons_succ]
                                                              refine wpAnyH_take (i := 104) (oi := { dst := some 171, op := Go.Op.pick (Go.Operand.tmp 169) (Go.Operand.tmp 170) (Go.Operand.const (Go.Value.bool false)), type := 4, pos := "law.go:212", after := #[{ on := 102, ground := Go.Ground.data }, { on := 103, ground := Go.Ground.data }], guard := none }) (v := ?v114) rfl (by kernel_rfl) (by kernel_rfl) (by kernel_rfl) (fun _ _ _ h => h) (Or.inl ⟨by rfl, ?hy114⟩) (by assumption) ?_
                                                              case hy114 => (intro w hSw; (try dsimp only at hSw); go_simp; try with_reducible rfl)
                                                              try simp only [Act.put, List.setIfInBounds_toArray, List.set_cons_zero, List.set_cons_succ]
                                                              refine wpAnyH_take (i := 105) (oi := { dst := some 0, op := Go.Op.assign (Go.Operand.tmp 171), type := 4, pos := "law.go:212", after := ([{ on := 104, ground := Go.Ground.data }, { on := 103, ground := Go.Ground.chain }, { on := 0, ground := Go.Ground.phase }, { on := 1, ground := Go.Ground.phase }, { on := 2, ground := Go.Ground.phase }, { on := 3, ground := Go.Ground.phase }, { on := 4, ground := Go.Ground.phase }, { on := 5, ground := Go.Ground.phase }, { on := 6, ground := Go.Ground.phase }, { on := 7, ground := Go.Ground.phase }, { on := 8, ground := Go.Ground.phase }, { on := 9, ground := Go.Ground.phase }, { on := 10, ground := Go.Ground.phase }, { on := 11, ground := Go.Ground.phase }, { on := 12, ground := Go.Ground.phase }, { on := 13, ground := Go.Ground.phase }, { on := 14, ground := Go.Ground.phase }, { on := 15, ground := Go.Ground.phase }, { on := 16, ground := Go.Ground.phase }, { on := 17, ground := Go.Ground.phase }, { on := 18, ground := Go.Ground.phase }, { on := 19, ground := Go.Ground.phase }, { on := 20, ground := Go.Ground.phase }, { on := 21, ground := Go.Ground.phase }, { on := 22, ground := Go.Ground.phase }, { on := 23, ground := Go.Ground.phase }, { on := 24, ground := Go.Ground.phase }, { on := 25, ground := Go.Ground.phase }, { on := 26, ground := Go.Ground.phase }, { on := 27, ground := Go.Ground.phase }, { on := 28, ground := Go.Ground.phase }, { on := 29, ground := Go.Ground.phase }, { on := 30, ground := Go.Ground.phase }, { on := 31, ground := Go.Ground.phase }, { on := 32, ground := Go.Ground.phase }, { on := 33, ground := Go.Ground.phase }, { on := 34, ground := Go.Ground.phase }, { on := 35, ground := Go.Ground.phase }, { on := 36, ground := Go.Ground.phase }, { on := 37, ground := Go.Ground.phase }, { on := 38, ground := Go.Ground.phase }, { on := 39, ground := Go.Ground.phase }, { on := 40, ground := Go.Ground.phase }, { on := 41, ground := Go.Ground.phase }, { on := 42, ground := Go.Ground.phase }, { on := 43, ground := Go.Ground.phase }, { on := 44, ground := Go.Ground.phase }, { on := 45, ground := Go.Ground.phase }, { on := 46, ground := Go.Ground.phase }, { on := 47, ground := Go.Ground.phase }, { on := 48, ground := Go.Ground.phase }, { on := 49, ground := Go.Ground.phase }, { on := 50, ground := Go.Ground.phase }].append [{ on := 51, ground := Go.Ground.phase }, { on := 52, ground := Go.Ground.phase }, { on := 53, ground := Go.Ground.phase }, { on := 54, ground := Go.Ground.phase }, { on := 55, ground := Go.Ground.phase }, { on := 56, ground := Go.Ground.phase }, { on := 57, ground := Go.Ground.phase }, { on := 58, ground := Go.Ground.phase }, { on := 59, ground := Go.Ground.phase }, { on := 60, ground := Go.Ground.phase }, { on := 61, ground := Go.Ground.phase }, { on := 62, ground := Go.Ground.phase }, { on := 63, ground := Go.Ground.phase }, { on := 64, ground := Go.Ground.phase }, { on := 65, ground := Go.Ground.phase }, { on := 66, ground := Go.Ground.phase }, { on := 67, ground := Go.Ground.phase }, { on := 68, ground := Go.Ground.phase }, { on := 69, ground := Go.Ground.phase }, { on := 70, ground := Go.Ground.phase }, { on := 71, ground := Go.Ground.phase }, { on := 72, ground := Go.Ground.phase }, { on := 73, ground := Go.Ground.phase }, { on := 74, ground := Go.Ground.phase }, { on := 75, ground := Go.Ground.phase }, { on := 76, ground := Go.Ground.phase }, { on := 77, ground := Go.Ground.phase }, { on := 78, ground := Go.Ground.phase }, { on := 79, ground := Go.Ground.phase }, { on := 80, ground := Go.Ground.phase }, { on := 81, ground := Go.Ground.phase }, { on := 82, ground := Go.Ground.phase }, { on := 83, ground := Go.Ground.phase }, { on := 84, ground := Go.Ground.phase }, { on := 85, ground := Go.Ground.phase }, { on := 86, ground := Go.Ground.phase }, { on := 87, ground := Go.Ground.phase }, { on := 88, ground := Go.Ground.phase }, { on := 89, ground := Go.Ground.phase }, { on := 90, ground := Go.Ground.phase }, { on := 91, ground := Go.Ground.phase }, { on := 92, ground := Go.Ground.phase }, { on := 93, ground := Go.Ground.phase }, { on := 94, ground := Go.Ground.phase }, { on := 95, ground := Go.Ground.phase }, { on := 96, ground := Go.Ground.phase }, { on := 97, ground := Go.Ground.phase }, { on := 98, ground := Go.Ground.phase }, { on := 99, ground := Go.Ground.phase }, { on := 100, ground := Go.Ground.phase }, { on := 101, ground := Go.Ground.phase }, { on := 102, ground := Go.Ground.phase }, { on := 103, ground := Go.Ground.phase }, { on := 104, ground := Go.Ground.phase }]).toArray, guard := none }) (v := ?v115) rfl (by kernel_rfl) (by kernel_rfl) (by kernel_rfl) (fun _ _ _ h => h) (Or.inl ⟨by rfl, ?hy115⟩) (by assumption) ?_
                                                              case hy115 => (intro w hSw; (try dsimp only at hSw); go_simp; try with_reducible rfl)
                                                              try simp only [Act.put, List.setIfInBounds_toArray, List.set_cons_zero]
                                                              refine wpAnyH_done (by kernel_rfl) ?_ _
                                                              go_wp2_with fail
                                                              go_ret
                                                              exact ⟨rfl, hbase.out.then (by (repeat' first | with_reducible exact Below.refl _ _ | with_reducible assumption | with_reducible refine Bw.drew ?_ | with_reducible refine Bw.drewN ?_ _ | with_reducible refine bw_al ?_ _ | with_reducible refine Bw.then ?_ (by with_reducible assumption)))⟩
end Go.Proofs.YthecmbmidoagaaaDoor

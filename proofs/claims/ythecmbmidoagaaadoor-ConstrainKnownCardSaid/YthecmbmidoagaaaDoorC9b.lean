/- The contract of 'Apply' (the program's). Conditions: what the arguments read as; the library's tables. -/
import Derived.Test.YthecmbmidoagaaaDoorC9
import Derived.Test.YthecmbmidoagaaaDoorSpec3
import Derived.WalkMore
namespace Go.Proofs.YthecmbmidoagaaaDoor
open Go.RowKit Go.Maps
open Pl

theorem frozen_bw {w w' : World} (hb : Bw w w') {p : Addr} {v : Value} (h : w.cell? p = some v) : w'.frozen? p = w.frozen? p := by
  unfold World.frozen?
  rw [hb.block _ (World.block_lt_of_cell? w p h)]

/-- What Apply hands back. -/
def ApR (w : World) (s : List Coh × List Stp × Int) (e : Ending) (w' : World) : Prop :=
  ∃ u v, e = .returned (.tuple #[u, v, .int .i64 s.2.2]) ∧ Bw w w' ∧ Sl tCoh w' (Hi w.heap.size) u s.1 ∧ Sl tStp w' (Hi w.heap.size) v s.2.1
theorem apr_bad {w w' : World} {s : List Coh × List Stp × Int} {e : Ending} (hs : s = ([], [], 1)) (he : e = .returned (.tuple #[.slice none 0 0, .slice none 0 0, .int .i64 1])) (hb : Bw w w') : ApR w s e w' := by
  subst hs; exact ⟨_, _, he, hb, Sl.nil, Sl.nil⟩
theorem app_bad {rules : List Rul} {l : List Coh} (h : ¬ (validRs nameB rules = true ∧ validL nameB l = true)) : app nameB rules l = ([], [], 1) := by
  unfold app
  rw [if_neg]
  intro h2
  simp only [Bool.and_eq_true] at h2
  exact h h2
theorem app_good {rules : List Rul} {l : List Coh} (h1 : validRs nameB rules = true) (h2 : validL nameB l = true) : app nameB rules l = ((appA rules l).1, (appA rules l).2, 0) := by
  unfold app
  rw [if_pos (by rw [h1, h2]; rfl)]

/-- What holds between two steps. -/
def ApI (w wr : World) (l : List Coh) (V4 v5 : Value) (s : St) : Prop :=
  s.1.length = l.length ∧ validL nameB s.1 = true ∧ totR s.1 + s.2.length ≤ totR l ∧ Bw w wr ∧ Acc (tLo tCoh (fun b => some b ≠ v5.ownBlock)) 37 wr w.heap.size V4 s.1 ∧ Acc tStp 52 wr w.heap.size v5 s.2 ∧ Dj V4 v5
theorem totR_le {l : List Coh} (h : validL nameB l = true) : totR l ≤ 6000 := by
  unfold validL at h
  simp only [Bool.and_eq_true, decide_eq_true_eq] at h
  have hb : ∀ (l : List Coh), (∀ c ∈ l, c.2.length ≤ 30) → totR l ≤ l.length * 30 := by
    intro l
    induction l with
    | nil => intro _; simp [totR]
    | cons a l ih =>
      intro hl
      have h1 := hl a (by simp)
      have h2 := ih fun c hc => hl c (by simp [hc])
      simp [totR] at h2 ⊢
      omega
  have := hb l fun c hc => by
    have := List.all_eq_true.1 h.2 c hc
    unfold validC at this
    simp only [Bool.and_eq_true, decide_eq_true_eq] at this
    exact this.1.2
  omega

set_option maxRecDepth 100000 in
set_option maxHeartbeats 16000000 in
theorem apply_any {v1 v2 : Value} {rules : List Rul} {l : List Coh} {w : World} (hT : Tb w) (hr : Rd tRul w v1 rules) (hl : Rd tCoh w v2 l) :
    Calls Tryd.prog 22 #[v1, v2] w (ApR w (app nameB rules l)) := by
  obtain ⟨A1, c1, rfl, _, _⟩ := hr.form
  obtain ⟨A2, c2, rfl, _, _⟩ := hl.form
  have hrm := hr.len_le
  have hlm := hl.len_le
  have HC := Lib.hid (containsU_any hr (a1_asks (l := rules) hT))
  have hany : (rules.any fun x => !validR nameB x) = !(rules.all (validR nameB)) := by rw [List.all_eq_not_any_not]; simp
  rw [hany] at HC
  have HL := Lib.hid (fun (W : World) (k : Bw w W) => valid_any (hT.after k) (hl.after k))
  obtain ⟨i0, hi, hz0, hz1, hz2⟩ := info_parts infoC
  obtain ⟨j0, hj, hy0, hy1, hy2⟩ := info_parts infoP
  by_cases h100 : rules.length ≤ 100
  · have h100' : ¬ (100 : Int) < rules.length := by omega
    have h100d : decide ((100 : Int) < rules.length) = false := decide_eq_false h100'
    cases q1 : rules.all (validR nameB) <;> rw [q1] at HC
    · have Hs := Lib.hid (app_bad (rules := rules) (l := l) (fun h => by have := h.1; unfold validRs at this; rw [q1] at this; simp at this))
      clear hr hl q1 hany
      go_enter Tryd.func22, Tryd.ntmps22
      go_wp2_with fail
      go_step3
      go_wp2_with ((with_reducible refine HC.out.mono ?_); rintro e wA ⟨rfl, hbA⟩)
      go_ret3
      exact apr_bad Hs.out rfl hbA
    · cases q2 : validL nameB l <;> rw [q2] at HL
      · have Hs := Lib.hid (app_bad (rules := rules) (l := l) (fun h => by have := h.2; rw [q2] at this; simp at this))
        clear hr hl q1 q2 hany
        go_enter Tryd.func22, Tryd.ntmps22
        go_wp2_with fail
        go_step3
        go_wp2_with (first | ((with_reducible refine HC.out.mono ?_); rintro e wA ⟨rfl, hbA⟩) | ((with_reducible refine (HL.out _ hbA).mono ?_); rintro e wB ⟨rfl, hbB⟩))
        go_ret3
        exact apr_bad Hs.out rfl (hbA.then hbB)
      · have q1' : validRs nameB rules = true := by unfold validRs; rw [q1, decide_eq_true h100]; rfl
        have Hs := Lib.hid (app_good q1' q2)
        have hvr := Lib.hid (List.all_eq_true.1 q1)
        have hll := validL_len q2
        have Hq2 := Lib.hid q2
        clear q1 q1' q2 hany
        go_enter Tryd.func22, Tryd.ntmps22
        go_wp2_with fail
        go_step3
        go_wp2_with (first | ((with_reducible refine HC.out.mono ?_); rintro e wA ⟨rfl, hbA⟩) | ((with_reducible refine (HL.out _ hbA).mono ?_); rintro e wB ⟨rfl, hbB⟩))
        go_loopw [28, 4] (fun i v4 wr => ∃ k : Nat, k ≤ l.length ∧ i = .int .i64 k ∧ Bw w wr ∧ Acc tCoh 37 wr w.heap.size v4 (l.take k)) (fun i _ _ => l.length - (intOf i).toNat)
        case atStart => exact ⟨0, Nat.zero_le _, rfl, hbA.then hbB, Acc.nil _ _⟩
        case round =>
          obtain ⟨k, hk, rfl, hbw, hacc⟩ := hrel
          by_cases hlt : k < l.length
          · obtain ⟨b, off, y, uy, rfl, hy, hys, hyr, e0, e1⟩ := (hl.after hbw).coh hlt
            have hsm := validL_small Hq2.out hy.out
            obtain ⟨fm, rs⟩ := y
            simp only at *
            obtain ⟨A3, c3, rfl, _, _⟩ := hyr.form
            have hbx := bw_refl_al wr (.cells #[.string fm, .slice A3 rs.length c3] 37)
            have HX := Lib.hid (clone_any (fm := fm) (hyr.rd.after hbx) hsm)
            have hsnoc : Hid (l.take (k + 1) = l.take k ++ [(fm, rs)]) := by show _ = _; rw [List.take_add_one, hy.out]; rfl
            have hkl : (l.take k).length = k := by rw [List.length_take]; omega
            have hys' : fm.size ≤ maxLen := hys
            have hB1 : (l.take k).length + 1 ≤ maxLen := by rw [hkl]; unfold maxLen; omega
            have hB2 : ((l.take k).length + 1) * 40 ≤ 140737488355328 := by rw [hkl]; omega
            have hown := hacc.own
            have hwx : w.heap.size ≤ (wr.alloc (.cells #[.string fm, .slice A3 rs.length c3] 37)).heap.size := Nat.le_trans hbw.size hbx.size
            obtain ⟨A4, n4, c4, rfl, _, _, Hn4⟩ := hacc.sl.form'
            clear hyr hy hr hl
            go_wp2_with (first
              | ((with_reducible refine HX.out.mono ?_); rintro e wC ⟨uC, rfl, hbC, hCC⟩; obtain ⟨PC, nC, cC, rfl, _, _, HnC⟩ := hCC.sl.form')
              | (at_builtin; refine wpList_app_one rfl _ _ rfl Tryd.underlying29 hi hz0 hz1 hz2 rfl rfl ((hacc.after (hbx.then hbC)).alloc _) rfl (at_new rfl) (coh_rep (c := (fm, rs)) hys' (hCC.sl.lt.keep fun b hb => ⟨⟨Nat.le_trans hwx hb.1.1, fun e => by have h1 := (hown b e.symm).2; have h2 := hb.1.1; rw [sz_alloc] at h2; omega⟩, Below.heap_alloc _ _ b hb.2⟩)) hB1 hB2 (Nat.le_trans hbw.size (Nat.le_trans hbx.size (Nat.le_trans hbC.size (by simp)))) ?_
                 intro v2 w2 hA2 hg2 hat2
                 rw [← hsnoc.out] at hA2))
            exact ⟨⟨k + 1, hlt, by go_num, Acc.bw (bw_al (hbw.then (hbx.then hbC)) _) hg2 (fun g e => (hown g e).1) (Nat.le_refl _), hA2⟩, by simp [intOf]; omega⟩
          · have hk2 : k = l.length := by omega
            subst hk2
            rw [List.take_length] at hacc
            have hown4 := hacc.own
            obtain ⟨A4, c4, rfl, _, _⟩ := hacc.form
            have hbw0 := hbw
            have hI0 : ApI w wr l (.slice A4 l.length c4) (.slice none 0 0) (l, []) := ⟨rfl, Hq2.out, by simp, hbw, acc_p (acc_lo hacc) (fun b _ _ => by simp [Value.ownBlock]), Acc.nil _ _, fun g h1 h2 => by cases h2⟩
            have hres0 : Hid (appF rules (totR (l, ([] : List Stp)).1 + 1) (l, []) = appA rules l) := rfl
            have htot := totR_le Hq2.out
            clear hacc hl
            go_wp2_with fail
            go_step3
            go_wp2_with fail
            go_loopw [5] (fun v5 wr => ∃ s : St, ApI w wr l (.slice A4 l.length c4) v5 s ∧ Hid (appF rules (totR s.1 + 1) s = appA rules l)) (fun v5 _ => totR l + 1 - lenV v5)
            case atStart => exact ⟨_, hI0, hres0⟩
            case round =>
              obtain ⟨s, hI, hres⟩ := hrel
              clear hI0 hres0 hbw0 hbw
              obtain ⟨A5, n5, c5, rfl, hn5c, hc5m, Hn5⟩ := hI.2.2.2.2.2.1.sl.form'
              have hn5 : n5 ≤ totR l := by have := hI.2.2.1; have := Hn5.out; omega
              have HI := Lib.hid hI
              clear hI
              go_wp2_with fail
              go_loopw [42, 5] (fun i v5 wr => ∃ kk : Nat, kk ≤ rules.length ∧ i = .int .i64 kk ∧ ApI w wr l (.slice A4 l.length c4) v5 (outA rules kk s)) (fun i _ _ => rules.length - (intOf i).toNat)
              case atStart => exact ⟨0, Nat.zero_le _, rfl, HI.out⟩
              case round =>
                obtain ⟨kk, hkk, rfl, hI3⟩ := hrel
                by_cases hlt3 : kk < rules.length
                · have hbw3 := hI3.2.2.2.1
                  obtain ⟨rb, roff, r, ru1, ru2, rfl, hrr, hri, hr1, hr2, ra0, ra1, ra2, ra3⟩ := hr.rul hlt3
                  have hvr1 := hvr.out r (List.mem_of_getElem? hrr.out)
                  obtain ⟨R1, d1, rfl, _, _⟩ := hr1.form
                  obtain ⟨R2, d2, rfl, _, _⟩ := hr2.form
                  have ra0' := bw_cell hbw3 ra0
                  have ra1' := bw_cell hbw3 ra1
                  have ra2' := bw_cell hbw3 ra2
                  have ra3' := bw_cell hbw3 ra3
                  have hout : Hid (outA rules (kk + 1) s = innA r kk l.length (outA rules kk s)) := by
                    show _ = _
                    conv => lhs; unfold outA
                    rw [hrr.out]
                    simp only
                    rw [HI.out.1]
                  generalize hs1 : outA rules kk s = s1 at *
                  obtain ⟨br, hbr⟩ : ∃ br, br = wr.heap.size := ⟨_, rfl⟩
                  have hrow0 : (wr.alloc (.cells #[.int .i64 r.op, .slice R1 r.target.length d1, .slice R2 r.tests.length d2, .bool r.wild] 34)).heap[br]? = some (.cells #[.int .i64 r.op, .slice R1 r.target.length d1, .slice R2 r.tests.length d2, .bool r.wild] 34) := at_new hbr
                  have hb4a := bw_refl_al wr (.cells #[.int .i64 r.op, .slice R1 r.target.length d1, .slice R2 r.tests.length d2, .bool r.wild] 34)
                  have hIb : ApI w (wr.alloc (.cells #[.int .i64 r.op, .slice R1 r.target.length d1, .slice R2 r.tests.length d2, .bool r.wild] 34)) l (.slice A4 l.length c4) _ s1 := ⟨hI3.1, hI3.2.1, hI3.2.2.1, hbw3.then hb4a, hI3.2.2.2.2.1.after hb4a, hI3.2.2.2.2.2.1.after hb4a, hI3.2.2.2.2.2.2⟩
                  have hv4b : (Value.slice A4 l.length c4).ownBlock ≠ some br := fun e => by have := (hI3.2.2.2.2.1.own _ e).2; omega
                  have hv5b := fun e => (show False by have := (hI3.2.2.2.2.2.1.own br e).2; omega)
                  have Hrow0 := Lib.hid hrow0
                  have Hs1 := Lib.hid hs1
                  have Hbr := Lib.hid hbr
                  clear hI3 hrow0 hs1 ra0 ra1 ra2 ra3
                  go_wp2_with fail
                  go_loopw [49, 5] (fun i v5 wr => ∃ jj : Nat, jj ≤ l.length ∧ i = .int .i64 jj ∧ ApI w wr l (.slice A4 l.length c4) v5 (innA r kk jj s1) ∧ wr.heap[br]? = some (.cells #[.int .i64 r.op, .slice R1 r.target.length d1, .slice R2 r.tests.length d2, .bool r.wild] 34) ∧ v5.ownBlock ≠ some br) (fun i _ _ => l.length - (intOf i).toNat)
                  case atStart => exact ⟨0, Nat.zero_le _, rfl, hIb, Hrow0.out, hv5b⟩
                  case round =>
                    obtain ⟨jj, hjj, rfl, hI4, hrow, hv5n⟩ := hrel
                    clear hIb hv5b Hrow0
                    by_cases hlt4 : jj < l.length
                    · have hinn : Hid (innA r kk (jj + 1) s1 = oneA r kk jj (innA r kk jj s1)) := rfl
                      generalize innA r kk jj s1 = s2 at *
                      obtain ⟨hlen2, hval2, hsum2, hbw4, hacc4, hac5, hdj⟩ := hI4
                      obtain ⟨y, hy⟩ : ∃ y, s2.1[jj]? = some y := ⟨_, List.getElem?_eq_getElem (by omega)⟩
                      have hone := one_at (r := r) (k := kk) hy
                      have hol := one_len r kk jj s2
                      have hov := one_valid (r := r) (k := kk) (i := jj) hval2
                      have hos := one_sum r kk jj s2
                      obtain ⟨g, cap, hV4, hgb, hgf⟩ := acc_first hacc4 (by omega)
                      rw [hlen2] at hV4
                      injection hV4 with hV4 _ hcap
                      subst hV4; subst hcap
                      have hsl4 := hacc4.sl.unlo
                      obtain ⟨bb, off, y', uy, hA, hy', hys, hyr, e0, e1⟩ := hsl4.coh (k := jj) (by omega)
                      injection hA with hA
                      injection hA with hA1 hA2
                      subst hA1; subst hA2
                      obtain rfl : y = y' := by have := hy'.out; rw [hy] at this; injection this
                      obtain ⟨A6, c6, rfl, _, _⟩ := hyr.form
                      have HX := Lib.hid (changed_any (k := jj) (hr1.rd.after hbw4) (hr2.rd.after hbw4) hsl4.rd hy (validR_op hvr1) (fun t ht => validT_at (validR_tests hvr1 t ht)) (validL_len hval2) (validL_small hval2 hy))
                      have hf0 := row4_0 hrow
                      have hf1 := row4_1 hrow
                      have hf2 := row4_2 hrow
                      have hf3 := row4_3 hrow
                      rw [Hbr.out] at hf0 hf1 hf2 hf3
                      have hform := Lib.hid (chg_form (r := r) hy)
                      have Hy := Lib.hid hy
                      obtain ⟨A5b, n5b, c5b, rfl, _, _, Hn5b⟩ := hac5.sl.form'
                      have hlt4' : (jj : Int) < l.length := by omega
                      have hys' : y.1.size ≤ maxLen := hys
                      rw [Nat.zero_add] at e0 e1
                      have Hrow := Lib.hid hrow
                      have Hone := Lib.hid hone
                      clear hsl4 hyr hone hy' hy hrow
                      by_cases hless : (chg r s2.1 jj).2.length < y.2.length
                      · go_wp2_with ((with_reducible refine HX.out.mono ?_); rintro e w1 ⟨uC, rfl, hb1, hsC⟩; obtain ⟨PC, nC, cC, rfl, _, _, HnC⟩ := hsC.form'; have hb5 : Bw wr (w1.alloc (.cells #[.string y.1, .slice PC nC cC] 37)) := bw_al hb1 _; have k0 := bw_cell hb5 e0; have k1 := bw_cell hb5 e1; have kf0 := (frozen_bw hb5 e0).trans (hgf _); have kf1 := (frozen_bw hb5 e1).trans (hgf _); have kb0 := row2_0 (w := w1.alloc (.cells #[.string y.1, .slice PC nC cC] 37)) (at_new rfl); have kb1 := row2_1 (w := w1.alloc (.cells #[.string y.1, .slice PC nC cC] 37)) (at_new rfl); have hcmp : (nC : Int) < y.2.length := by (have := HnC.out; omega))
                        go_quiet (fail)
                        have hlc : (chg r s2.1 jj) = (y.1, (chg r s2.1 jj).2) := by rw [← hform.out]
                        have hsC5 : Sl tRdg (w1.alloc (.cells #[.string y.1, .slice PC nC cC] 37)) (fun b => (w.heap.size ≤ b ∧ b ≠ g) ∧ some b ≠ (Value.slice A5b n5b c5b).ownBlock) (.slice PC nC cC) (chg r s2.1 jj).2 :=
                          hsC.lt.keep fun b hb => ⟨⟨⟨Nat.le_trans hbw4.size hb.1, fun e => by have h1 := World.block_lt_of_cell? _ _ e0; have h2 : wr.heap.size ≤ b := hb.1; simp at h1; omega⟩, fun e => by have h1 := (hac5.own b e.symm).2; have h2 : wr.heap.size ≤ b := hb.1; omega⟩, Below.heap_alloc w1 _ b hb.2⟩
                        have hset := acc_setC ((hacc4.after hb5).dn nq) (j := jj) (by omega) hys' (hsC5.drewN nq)
                        rw [← hlc] at hset
                        have hgw1 : g < wr.heap.size := World.block_lt_of_cell? wr ⟨g, jj * 2, none⟩ e0
                        have hs1w := hb1.size
                        have kx1 := grown_cell (p := ⟨w1.heap.size, 1, none⟩) hset.2 kb1 (by intro e; injection e with e; simp at e; omega)
                        have hac6 : Acc tStp 52 (((((w1.alloc (.cells #[.string y.1, .slice PC nC cC] 37)).drewN nq).setCell ⟨g, jj * 2, none⟩ (.string y.1)).setCell ⟨g, jj * 2 + 1, none⟩ (.slice PC nC cC))) w.heap.size (.slice A5b n5b c5b) s2.2 :=
                          ((hac5.after hb5).dn nq).grownF flat_stp hset.2 (by
                            cases ho : (Value.slice A5b n5b c5b).ownBlock with
                            | none => exact .inl rfl
                            | some q => exact .inr (fun e => hdj g rfl (by rw [ho]; exact e)))
                        have hB1 : s2.2.length + 1 ≤ maxLen := by unfold maxLen; omega
                        have hB2 : (s2.2.length + 1) * 24 ≤ 140737488355328 := by omega
                        have hkI : inI64 (kk : Int) := ⟨by omega, by omega⟩
                        have hjI : inI64 (jj : Int) := ⟨by omega, by omega⟩
                        have hnI : inI64 (nC : Int) := ⟨by omega, by omega⟩
                        have hszX : w.heap.size ≤ ((((w1.alloc (.cells #[.string y.1, .slice PC nC cC] 37)).drewN nq).setCell ⟨g, jj * 2, none⟩ (.string y.1)).setCell ⟨g, jj * 2 + 1, none⟩ (.slice PC nC cC)).heap.size := Nat.le_trans (hbw4.then hb5).size hset.2.size
                        have hown5 := hac5.own
                        have hXrow : ((((((w1.alloc (.cells #[.string y.1, .slice PC nC cC] 37)).drewN nq).setCell ⟨g, jj * 2, none⟩ (.string y.1)).setCell ⟨g, jj * 2 + 1, none⟩ (.slice PC nC cC))).alloc (.cells #[.int .i64 kk, .int .i64 jj, .int .i64 nC] 52)).heap[w1.heap.size + 1]? = some (.cells #[.int .i64 kk, .int .i64 jj, .int .i64 nC] 52) := at_new (by simp [World.setCell])
                        have HXrow := Lib.hid hXrow
                        clear hXrow
                        go_wp2_with (at_builtin; refine Hid.out (?_ : Hid _))
                        show wpList _ _ _ _ _ _
                        refine wpList_app_one (T := tStp) (v := .slice A5b n5b c5b) (xs := s2.2) rfl _ _ rfl Tryd.underlying45 hj hy0 hy1 hy2 rfl rfl (hac6.alloc _) rfl HXrow.out (y := ((kk : Int), (jj : Int), (nC : Int))) (stp_rep (s := ((kk : Int), (jj : Int), (nC : Int))) hkI hjI hnI) hB1 hB2 (Nat.le_trans hszX (by simp)) ?_
                        intro v2 w2 hA2 hg2 hat2
                        go_wp2_with fail
                        have hone' := Hone.out
                        rw [if_pos hless] at hone'
                        rw [HnC.out] at hA2
                        have hbX : Bw w ((((w1.alloc (.cells #[.string y.1, .slice PC nC cC] 37)).drewN nq).setCell ⟨g, jj * 2, none⟩ (.string y.1)).setCell ⟨g, jj * 2 + 1, none⟩ (.slice PC nC cC)) := bw_grown ((hbw4.then hb5).drewN nq) hset.2 hgb
                        have hszA : (((((w1.alloc (.cells #[.string y.1, .slice PC nC cC] 37)).drewN nq).setCell ⟨g, jj * 2, none⟩ (.string y.1)).setCell ⟨g, jj * 2 + 1, none⟩ (.slice PC nC cC)).alloc (.cells #[.int .i64 kk, .int .i64 jj, .int .i64 nC] 52)).heap.size = w1.heap.size + 2 := by simp [World.setCell]
                        have hv5g : (Value.slice A5b n5b c5b).ownBlock ≠ some g := fun e => hdj g rfl e
                        have hbrw : br < wr.heap.size := (Array.getElem?_eq_some_iff.1 Hrow.out).1
                        have hI5 : ApI w w2 l (.slice (some ⟨g, 0, none⟩) l.length c4) v2 (oneA r kk jj s2) := by
                          refine ⟨hol.trans hlen2, hov, Nat.le_trans hos.1 hsum2, Acc.bw (bw_al hbX _) hg2 (fun q e => (hown5 q e).1) (Nat.le_refl _), ?_, ?_, hdj.step hat2 (fun q e => by have e2 : some g = some q := e; injection e2 with e2; rw [hszA]; omega)⟩
                          · rw [hone']
                            have k1 := acc_p (P' := fun b => some b ≠ (Value.slice A5b n5b c5b).ownBlock ∧ b < w1.heap.size + 2) (hset.1.alloc (.cells #[.int .i64 kk, .int .i64 jj, .int .i64 nC] 52)) (fun b hb h => ⟨h, by rw [hszA] at hb; exact hb⟩)
                            have k2 := k1.lo_grown hg2 (.inr (fun e => hv5g e.symm)) (fun q e h => h.1 e.symm)
                            refine acc_p k2 (fun b _ h => ?_)
                            rcases hat2 with e | e
                            · rw [e]; exact h.1
                            · rw [e]; intro e2; injection e2 with e2; rw [hszA] at e2; omega
                          · rw [hone']; exact hA2
                        refine ⟨⟨jj + 1, hlt4, by go_num, by rw [hinn.out]; exact hI5, ?_, ?_⟩, by simp [intOf]; omega⟩
                        · exact (hg2.block br (by rw [hszA]; omega) (fun e => hv5n e.symm)).trans ((at_old_eq (by have := hset.2.size; have := (hbw4.then hb5).size; have h3 : (((((w1.alloc (.cells #[.string y.1, .slice PC nC cC] 37)).drewN nq).setCell ⟨g, jj * 2, none⟩ (.string y.1)).setCell ⟨g, jj * 2 + 1, none⟩ (.slice PC nC cC))).heap.size = w1.heap.size + 1 := (by simp [World.setCell]); omega)).trans ((hset.2.block br (by show br < (w1.alloc _).heap.size; rw [sz_alloc]; omega) (fun e => hv4b (show some g = some br from e.symm))).trans (row_bw (hb5.drewN nq) Hrow.out)))
                        · rcases hat2 with e | e
                          · rw [e]; exact hv5n
                          · rw [e]; intro e2; injection e2 with e2; rw [hszA] at e2; omega
                      · go_wp2_with fail
                        refine HX.out.mono ?_
                        rintro e w1 ⟨uC, rfl, hb1, hsC⟩
                        obtain ⟨PC, nC, cC, rfl, _, _, HnC⟩ := hsC.form'
                        have hb5 : Bw wr (w1.alloc (.cells #[.string y.1, .slice PC nC cC] 37)) := bw_al hb1 _
                        have k0 := bw_cell hb5 e0
                        have k1 := bw_cell hb5 e1
                        have kb0 := row2_0 (w := w1.alloc (.cells #[.string y.1, .slice PC nC cC] 37)) (at_new rfl)
                        have kb1 := row2_1 (w := w1.alloc (.cells #[.string y.1, .slice PC nC cC] 37)) (at_new rfl)
                        have hcmp : ¬ (nC : Int) < y.2.length := by have := HnC.out; omega
                        have hcmp2 : decide ((nC : Int) < y.2.length) = false := decide_eq_false hcmp
                        go_wp2_with fail
                        go_quiet (fail)
                        go_wp2_with fail
                        have hone' := Hone.out
                        rw [if_neg hless] at hone'
                        have hbN : Bw wr ((w1.alloc (.cells #[.string y.1, .slice PC nC cC] 37)).drewN nq) := hb5.drewN nq
                        refine ⟨⟨jj + 1, hlt4, by go_num, by rw [hinn.out, hone']; exact ⟨hlen2, hval2, hsum2, hbw4.then hbN, hacc4.after hbN, hac5.after hbN, hdj⟩, row_bw hbN Hrow.out, hv5n⟩, by simp [intOf]; omega⟩
                    · have hj4 : jj = l.length := by omega
                      subst hj4
                      go_wp2_with fail
                      exact ⟨⟨kk + 1, hlt3, by go_num, by rw [hout.out]; exact hI4⟩, by simp [intOf]; omega⟩
                · have hk3 : kk = rules.length := by omega
                  subst hk3
                  have hpass : Hid (outA rules rules.length s = passA rules s) := rfl
                  rw [hpass.out] at hI3
                  obtain ⟨A6, n6, c6, rfl, _, _, Hn6⟩ := hI3.2.2.2.2.2.1.sl.form'
                  have hps := Lib.hid (pass_sum rules s)
                  have hI6 := Lib.hid hI3
                  have Hres := Lib.hid hres
                  clear hI3
                  by_cases hpe : (passA rules s).2.length = s.2.length
                  · have hq : n6 = n5 := by have := Hn6.out; have := Hn5.out; omega
                    subst hq
                    have Hp := Lib.hid hpe
                    clear hpe
                    go_wp2_with fail
                    rw [Exit.noGoto_ret]
                    go_ret3
                    have hst := appF_stop Hres.out Hp.out
                    rw [hst] at hI6
                    obtain ⟨_, _, _, f4, f5, f6, _⟩ := hI6.out
                    unfold ApR
                    rw [Hs.out]
                    exact ⟨_, _, rfl, f4, f5.sl.unlo.weaken fun b hb => hb.1, f6.hi⟩
                  · have hq : ¬ n6 = n5 := by have := Hn6.out; have := Hn5.out; omega
                    have hq' : ((n6 : Int) == (n5 : Int)) = false := by simpa using (by omega : ¬ (n6 : Int) = n5)
                    have Hp := Lib.hid hpe
                    clear hpe
                    go_wp2_with fail
                    refine ⟨⟨passA rules s, hI6.out, (appF_go Hres.out Hp.out).1⟩, ?_⟩
                    have g1 := hI6.out.2.2.1
                    have g2 := hps.out.2.1
                    have g3 := Hn6.out
                    have g4 := Hn5.out
                    show totR l + 1 - n6 < totR l + 1 - n5
                    omega
  · have h100' : (100 : Int) < rules.length := by omega
    have h100d : decide ((100 : Int) < rules.length) = true := decide_eq_true h100'
    have Hs := Lib.hid (app_bad (rules := rules) (l := l) (fun h => by have := h.1; unfold validRs at this; rw [decide_eq_false h100] at this; simp at this))
    clear hr hl hany
    go_enter Tryd.func22, Tryd.ntmps22
    go_wp2_with fail
    go_step3
    go_wp2_with fail
    go_ret3
    exact apr_bad Hs.out rfl (Below.refl _ _)
end Go.Proofs.YthecmbmidoagaaaDoor

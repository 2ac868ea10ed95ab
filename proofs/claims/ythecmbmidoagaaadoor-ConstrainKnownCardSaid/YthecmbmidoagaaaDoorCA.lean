/- The contracts of 'SameCohort', 'Same', 'SameSteps', 'large', 'many'. Conditions: what the arguments read as. -/
import Derived.Test.YthecmbmidoagaaaDoorC9
namespace Go.Proofs.YthecmbmidoagaaaDoor
open Go.RowKit Go.Maps
open Pl

/-- Two cohorts are the same. -/
def eqC (a b : Coh) : Bool := decide (a = b)
theorem ext_at {α : Type} {xs ys : List α} (hl : xs.length = ys.length) (h : Pre xs.length (fun j => xs[j]? = ys[j]?)) : xs = ys := by
  apply List.ext_getElem?
  intro j
  by_cases hj : j < xs.length
  · exact h j hj
  · rw [List.getElem?_eq_none (by omega), List.getElem?_eq_none (by omega)]

set_option maxRecDepth 100000 in
set_option maxHeartbeats 4000000 in
theorem samec_any {f1 f2 : ByteArray} {u1 u2 : Value} {r1 r2 : List Rdg} {w : World} (h1 : Rd tRdg w u1 r1) (h2 : Rd tRdg w u2 r2) :
    Calls Tryd.prog 20 #[.agg #[.string f1, u1], .agg #[.string f2, u2]] w fun e w' => e = .returned (.bool (eqC (f1, r1) (f2, r2))) ∧ Bw w w' := by
  have hm1 := h1.len_le
  have hm2 := h2.len_le
  obtain ⟨A1, c1, rfl, _, _⟩ := h1.form
  obtain ⟨A2, c2, rfl, _, _⟩ := h2.form
  have hb2 := bw_al (bw_refl_al w (.cells #[.string f1, .slice A1 r1.length c1] 37)) (.cells #[.string f2, .slice A2 r2.length c2] 37)
  by_cases hf : f1 = f2
  · subst hf
    have ef := str_eq f1
    have ef2 : (f1.toList != f1.toList) = false := by simp
    by_cases hl : r1.length = r2.length
    · have Hl := Lib.hid hl
      have hll : (r1.length : Int) = r2.length := by omega
      have hne : ((r1.length : Int) != (r2.length : Int)) = false := by rw [hll]; simp
      clear hll hl
      go_enter Tryd.func20, Tryd.ntmps20
      go_wp2_with fail
      go_loopw [5] (fun i wr => ∃ k : Nat, k ≤ r1.length ∧ i = .int .i64 k ∧ Dr ((w.alloc (.cells #[.string f1, .slice A1 r1.length c1] 37)).alloc (.cells #[.string f1, .slice A2 r2.length c2] 37)) wr ∧ Pre k (fun j => r1[j]? = r2[j]?)) (fun i _ => r1.length - (intOf i).toNat)
      case atStart => exact ⟨0, Nat.zero_le _, rfl, Dr.refl _, Pre.zero⟩
      case round =>
        obtain ⟨k, hk, rfl, hd, hpre⟩ := hrel
        have hbw := hb2.then hd.bw
        have k1 : wr.cell? ⟨w.heap.size, 1, none⟩ = some (.slice A1 r1.length c1) := bw_cell hd.bw (by go_simp)
        have k2 : wr.cell? ⟨w.heap.size + 1, 1, none⟩ = some (.slice A2 r2.length c2) := bw_cell hd.bw (by go_simp)
        by_cases hlt : k < r1.length
        · have hlt2 : k < r2.length := by have := Hl.out; omega
          obtain ⟨b, off, x, ux, rfl, hx, hxr, hcx⟩ := lookR (h1.after hbw) hlt
          obtain ⟨b', off', y, uy, rfl, hy, hyr, hcy⟩ := lookR (h2.after hbw) hlt2
          obtain ⟨_, e, hxu⟩ := rep_rdg hxr
          injection e with e; subst e
          obtain ⟨_, e, hyu⟩ := rep_rdg hyr
          injection e with e; subst e
          have HC := Lib.hid (fun n => sameTags_any (hxu.rd.dn n) (hyu.rd.dn n))
          clear hxr hyr hxu hyu h1 h2
          by_cases hxy : x = y
          · have Hq : Hid (same x y = true) := by show _ = _; unfold same; simpa using hxy
            have Hn : Hid (r1[k]? = r2[k]?) := by show _ = _; rw [hx.out, hy.out, hxy]
            clear hxy
            go_wp2_with fail
            go_quiet ((go_at_call 43; exact Dr.quiet' (congrArg Value.bool Hq.out) (HC.out _)))
            go_wp2_with fail
            exact ⟨⟨k + 1, hlt, by go_num, hd.drewN _, hpre.snoc Hn.out⟩, by simp [intOf]; omega⟩
          · have Hq : Hid (same x y = false) := by show _ = _; unfold same; simpa using hxy
            have Hr : Hid (eqC (f1, r1) (f1, r2) = false) := by
              show _ = _
              unfold eqC
              simp only [decide_eq_false_iff_not]
              intro e
              injection e with _ e
              rw [e, hy.out] at hx
              have := hx.out
              injection this with this
              exact hxy this.symm
            clear hxy
            go_wp2_with fail
            go_quiet ((go_at_call 43; exact Dr.quiet' (congrArg Value.bool Hq.out) (HC.out _)))
            go_wp2_with fail
            go_ret
            exact ⟨ret_b Hr.out.symm, hbw.drewN _⟩
        · have hk2 : k = r1.length := by omega
          subst hk2
          have Hr : Hid (eqC (f1, r1) (f1, r2) = true) := by
            show _ = _
            unfold eqC
            rw [decide_eq_true_iff, ext_at Hl.out hpre]
          go_wp2_with fail
          go_ret
          exact ⟨ret_b Hr.out.symm, hbw⟩
    · have hne : ((r1.length : Int) != (r2.length : Int)) = true := by simpa using (by omega : ¬ (r1.length : Int) = r2.length)
      have Hr : Hid (eqC (f1, r1) (f1, r2) = false) := by
        show _ = _
        unfold eqC
        rw [decide_eq_false_iff_not]
        intro e
        injection e with _ e
        exact hl (by rw [e])
      clear hl h1 h2
      go_enter Tryd.func20, Tryd.ntmps20
      go_wp2_with fail
      go_ret
      exact ⟨ret_b Hr.out.symm, hb2⟩
  · have ef := str_ne hf
    have ef2 : (f1.toList != f2.toList) = true := by simpa using ef
    have Hr : Hid (eqC (f1, r1) (f2, r2) = false) := by
      show _ = _
      unfold eqC
      rw [decide_eq_false_iff_not]
      intro e
      injection e with e _
      exact hf e
    clear hf h1 h2
    go_enter Tryd.func20, Tryd.ntmps20
    go_wp2_with fail
    go_ret
    exact ⟨ret_b Hr.out.symm, hb2⟩

set_option maxRecDepth 100000 in
set_option maxHeartbeats 4000000 in
theorem same_any {v1 v2 : Value} {l1 l2 : List Coh} {w : World} (h1 : Rd tCoh w v1 l1) (h2 : Rd tCoh w v2 l2) :
    Calls Tryd.prog 24 #[v1, v2] w fun e w' => e = .returned (.bool (same l1 l2)) ∧ Bw w w' := by
  have hm1 := h1.len_le
  have hm2 := h2.len_le
  obtain ⟨A1, c1, rfl, _, _⟩ := h1.form
  obtain ⟨A2, c2, rfl, _, _⟩ := h2.form
  by_cases hl : l1.length = l2.length
  · have Hl := Lib.hid hl
    have hll : (l1.length : Int) = l2.length := by omega
    have hne : ((l1.length : Int) != (l2.length : Int)) = false := by rw [hll]; simp
    clear hll hl
    go_enter Tryd.func24, Tryd.ntmps24
    go_wp2_with fail
    go_loopw [5] (fun i wr => ∃ k : Nat, k ≤ l1.length ∧ i = .int .i64 k ∧ Bw w wr ∧ Pre k (fun j => l1[j]? = l2[j]?)) (fun i _ => l1.length - (intOf i).toNat)
    case atStart => exact ⟨0, Nat.zero_le _, rfl, Below.refl _ _, Pre.zero⟩
    case round =>
      obtain ⟨k, hk, rfl, hbw, hpre⟩ := hrel
      by_cases hlt : k < l1.length
      · have hlt2 : k < l2.length := by have := Hl.out; omega
        have hi0 : (0 : Int) ≤ k := by omega
        have hi1 : (k : Int) < l1.length := by omega
        have hi2 : (k : Int) < l2.length := by omega
        obtain ⟨b, off, x, ux, rfl, hx, _, hxr, x0, x1⟩ := (h1.after hbw).coh hlt
        obtain ⟨b', off', y, uy, rfl, hy, _, hyr, y0, y1⟩ := (h2.after hbw).coh hlt2
        obtain ⟨fx, rx⟩ := x
        obtain ⟨fy, ry⟩ := y
        simp only at *
        have K : ∀ w', Bw wr w' → w'.cell? ⟨b, off + k * 2, none⟩ = some (.string fx) ∧ w'.cell? ⟨b, off + k * 2 + 1, none⟩ = some ux ∧ w'.cell? ⟨b', off' + k * 2, none⟩ = some (.string fy) ∧ w'.cell? ⟨b', off' + k * 2 + 1, none⟩ = some uy := fun w' kk => ⟨bw_cell kk x0, bw_cell kk x1, bw_cell kk y0, bw_cell kk y1⟩
        have HC := Lib.hid (fun (W : World) (kk : Bw wr W) => samec_any (f1 := fx) (f2 := fy) (hxr.rd.after kk) (hyr.rd.after kk))
        have Hn : Hid (eqC (fx, rx) (fy, ry) = true → l1[k]? = l2[k]?) := fun e => by
          unfold eqC at e
          rw [hx.out, hy.out, of_decide_eq_true e]
        have Hb : Hid (eqC (fx, rx) (fy, ry) = false → false = same l1 l2) := fun e => by
          unfold eqC at e
          unfold same
          symm
          rw [decide_eq_false_iff_not] at e ⊢
          intro e2
          rw [e2, hy.out] at hx
          have := hx.out
          injection this with this
          exact e this.symm
        clear hxr hyr h1 h2
        generalize eqC (fx, rx) (fy, ry) = q at *
        cases q
        · have Hr := Lib.hid (Hb.out (by first | rfl | trivial))
          go_wp2_with fail
          go_region_held3 (fun w' => w'.cell? ⟨b, off + k * 2, none⟩ = some (.string fx) ∧ w'.cell? ⟨b, off + k * 2 + 1, none⟩ = some ux ∧ w'.cell? ⟨b', off' + k * 2, none⟩ = some (.string fy) ∧ w'.cell? ⟨b', off' + k * 2 + 1, none⟩ = some uy)
            (exact K _ (by (repeat' first | with_reducible exact Below.refl _ _ | with_reducible refine Bw.then ?_ hbA | with_reducible refine Bw.drew ?_ | with_reducible refine Bw.drewN ?_ _)))
            (first | (go_at_call 20; (with_reducible refine (HC.out _ (by (repeat' first | with_reducible exact Below.refl _ _ | with_reducible refine Bw.then ?_ hbA | with_reducible refine Bw.drew ?_ | with_reducible refine Bw.drewN ?_ _))).mono ?_); rintro e wA ⟨rfl, hbA⟩))
          go_wp2_with fail
          go_ret
          exact ⟨ret_b Hr.out, hbw.then (by (repeat' first | with_reducible exact Below.refl _ _ | with_reducible refine Bw.then ?_ hbA | with_reducible refine Bw.drew ?_ | with_reducible refine Bw.drewN ?_ _))⟩
        · have Hq := Lib.hid (Hn.out (by first | rfl | trivial))
          go_wp2_with fail
          go_region_held3 (fun w' => w'.cell? ⟨b, off + k * 2, none⟩ = some (.string fx) ∧ w'.cell? ⟨b, off + k * 2 + 1, none⟩ = some ux ∧ w'.cell? ⟨b', off' + k * 2, none⟩ = some (.string fy) ∧ w'.cell? ⟨b', off' + k * 2 + 1, none⟩ = some uy)
            (exact K _ (by (repeat' first | with_reducible exact Below.refl _ _ | with_reducible refine Bw.then ?_ hbA | with_reducible refine Bw.drew ?_ | with_reducible refine Bw.drewN ?_ _)))
            (first | (go_at_call 20; (with_reducible refine (HC.out _ (by (repeat' first | with_reducible exact Below.refl _ _ | with_reducible refine Bw.then ?_ hbA | with_reducible refine Bw.drew ?_ | with_reducible refine Bw.drewN ?_ _))).mono ?_); rintro e wA ⟨rfl, hbA⟩))
          go_wp2_with fail
          exact ⟨⟨k + 1, hlt, by go_num, hbw.then (by (repeat' first | with_reducible exact Below.refl _ _ | with_reducible refine Bw.then ?_ hbA | with_reducible refine Bw.drew ?_ | with_reducible refine Bw.drewN ?_ _)), hpre.snoc Hq.out⟩, by simp [intOf]; omega⟩
      · have hk2 : k = l1.length := by omega
        subst hk2
        have Hr : Hid (same l1 l2 = true) := by show _ = _; unfold same; rw [decide_eq_true_iff, ext_at Hl.out hpre]
        go_wp2_with fail
        go_ret
        exact ⟨ret_b Hr.out.symm, hbw⟩
  · have hne : ((l1.length : Int) != (l2.length : Int)) = true := by simpa using (by omega : ¬ (l1.length : Int) = l2.length)
    have Hr : Hid (same l1 l2 = false) := by
      show _ = _
      unfold same
      rw [decide_eq_false_iff_not]
      intro e
      exact hl (by rw [e])
    clear hl h1 h2
    go_enter Tryd.func24, Tryd.ntmps24
    go_wp2_with fail
    go_ret
    exact ⟨ret_b Hr.out.symm, Below.refl _ _⟩
end Go.Proofs.YthecmbmidoagaaaDoor

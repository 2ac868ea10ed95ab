/- The contracts of slices.Clone at strings and of both 'Add'. Conditions: what the slice reads as; the library's tables; the bounds of a string. -/
import Derived.Test.YtfdmpbihepkjnaaDoorS6
namespace Go.Proofs.YtfdmpbihepkjnaaDoor
open Go.RowKit Go.Maps
open Pl

theorem acc_strs {w : World} {base : Nat} {v : Value} {t : List ByteArray} (h : w.ownsRow base 9 1 v t.length (t.map Value.string)) (ht : ∀ y ∈ t, y.size ≤ maxLen) : Acc tStr 9 w base v t := by
  refine ⟨t.map fun s => [.string s], ?_, by simp, fun j x cs hj hc => ?_⟩
  · have : ∀ l : List ByteArray, (l.map fun s => [Value.string s]).flatten = l.map Value.string := by
      intro l
      induction l with
      | nil => rfl
      | cons x r ih => simp only [List.map_cons, List.flatten_cons, ih]; rfl
    rw [this]; exact h
  · rw [List.getElem?_map, hj] at hc
    injection hc with hc
    subst hc
    exact ⟨rfl, ht x (List.mem_of_getElem? hj)⟩

theorem clone_any {v : Value} {t : List ByteArray} {w : World} (h : Rd tStr w v t) (hl : t.length ≤ 500) (ht : ∀ y ∈ t, y.size ≤ maxLen) :
    Calls Tryd.prog 40 #[v] w fun e w' => ∃ u, e = .returned u ∧ Bw w w' ∧ Acc tStr 9 w' w.heap.size u t := by
  obtain ⟨A, c, rfl, h2, h3, hrow⟩ := h
  by_cases h0 : t = []
  · subst h0
    cases A with
    | none =>
      refine (Tryd.slices_Clone_string_nil 0 c w).mono ?_
      rintro e w' ⟨rfl, rfl⟩
      exact ⟨_, rfl, Below.refl _ _, Acc.nil _ _⟩
    | some a =>
      refine (Tryd.slices_Clone_string_zero a c w).mono ?_
      rintro e w' ⟨u, rfl, h1, _, hb⟩
      exact ⟨_, rfl, hb, acc_strs (t := []) h1 ht⟩
  · rcases hrow with hrow | ⟨b, off, rfl, hD, hx⟩
    · exact absurd hrow h0
    · refine (Tryd.slices_Clone_string b off t.length c t w (Nat.le_refl _) (by omega) (fun j hj => ?_)).mono ?_
      · obtain ⟨cs, ⟨rfl, _⟩, hc⟩ := hx j _ (List.getElem?_eq_getElem hj)
        have := hc 0 _ rfl
        simp only [tStr, Nat.mul_one, Nat.add_zero] at this
        rw [this, List.getD_eq_getElem?_getD, List.getElem?_eq_getElem hj]
        rfl
      · rintro e w' ⟨u, rfl, h1, _, hb⟩
        rw [List.take_length] at h1
        exact ⟨_, rfl, hb, acc_strs h1 ht⟩

/-- What Add hands back. -/
def addR (t : List ByteArray) (x : ByteArray) : List ByteArray × Int × Int :=
  if vT t && nameB x then (match posN x t with | some k => (t, (k : Int) + 1, 0) | none => if 500 ≤ t.length then ([], 0, 2) else (t ++ [x], (t.length : Int) + 1, 0)) else ([], 0, 1)
def AdR (w : World) (r : List ByteArray × Int × Int) (e : Ending) (w' : World) : Prop :=
  ∃ u, e = .returned (.tuple #[u, .int .i64 r.2.1, .int .i64 r.2.2]) ∧ Bw w w' ∧ Sl tStr w' (Hi w.heap.size) u r.1

theorem vT_max {t : List ByteArray} (h : vT t = true) : ∀ y ∈ t, y.size ≤ maxLen := fun y hy => by
  have := List.all_eq_true.1 (vT_parts h).2.1 y hy
  unfold nameB at this
  simp only [Bool.and_eq_true, decide_eq_true_eq] at this
  unfold maxLen; omega
theorem adr_end {w w' : World} {t : List ByteArray} {x : ByteArray} {a b : Int} {u : Value} {l : List ByteArray} {e : Ending} (h1 : addR t x = (l, a, b)) (h3 : e = .returned (.tuple #[u, .int .i64 a, .int .i64 b])) (h4 : Bw w w') (h5 : Sl tStr w' (Hi w.heap.size) u l) : AdR w (addR t x) e w' := by
  rw [h1]; exact ⟨u, h3, h4, h5⟩

set_option maxRecDepth 100000 in
set_option maxHeartbeats 2000000 in
theorem add_any {v : Value} {t : List ByteArray} {x : ByteArray} {w : World} (hT : Tb w) (h : Rd tStr w v t) (hx : x.size ≤ maxLen) :
    Calls Tryd.prog 28 #[v, .string x] w (AdR w (addR t x)) := by
  obtain ⟨i0, hi, hz0, hz1, hzb⟩ := info_parts infoStr
  have HV := Lib.hid (valid_any hT h)
  have HI := Lib.hid (fun (w' : World) (hb : Bw w w') => isName_any (s := x) (hT.after hb))
  have HN := Lib.hid (fun (w' : World) (hb : Bw w w') => numbers_any (h.after hb))
  have h0 := Lib.hid h
  obtain ⟨A, c, rfl, _, _⟩ := h.form
  clear h
  cases q : vT t
  · have Hr : Hid (addR t x = ([], 0, 1)) := by show _ = _; unfold addR; rw [q]; rfl
    rw [q] at HV
    clear q
    go_enter Tryd.func28, Tryd.ntmps28
    go_wp2_with (go_at_call 17; (with_reducible refine HV.out.mono ?_); rintro e w1 ⟨rfl, hb1⟩)
    go_ret3
    exact adr_end Hr.out rfl hb1 Sl.nil
  · rw [q] at HV
    cases q2 : nameB x
    · have Hr : Hid (addR t x = ([], 0, 1)) := by show _ = _; unfold addR; rw [q, q2]; rfl
      rw [q2] at HI
      clear q q2
      go_enter Tryd.func28, Tryd.ntmps28
      go_wp2_with (first
        | (go_at_call 17; (with_reducible refine HV.out.mono ?_); rintro e w1 ⟨rfl, hb1⟩)
        | (go_at_call 34; (with_reducible refine (HI.out _ hb1).mono ?_); rintro e w2 ⟨rfl, hb2⟩))
      go_ret3
      exact adr_end Hr.out rfl (hb1.then hb2) Sl.nil
    · have hr : addR t x = (match posN x t with | some k => (t, (k : Int) + 1, 0) | none => if 500 ≤ t.length then ([], 0, 2) else (t ++ [x], (t.length : Int) + 1, 0)) := by unfold addR; rw [q, q2]; rfl
      rw [q2] at HI
      have Hn := Lib.hid (vT_parts q).2.2
      have h500 := (vT_parts q).1
      have HC := Lib.hid (fun (w' : World) (hb : Bw w w') => clone_any (h0.out.after hb) (vT_parts q).1 (vT_max q))
      have Hx := Lib.hid hx
      clear q q2
      cases hp : posN x t with
      | some k =>
        rw [hp] at hr
        have Hr := Lib.hid hr
        have Hp := Lib.hid hp
        clear hr hp
        go_enter Tryd.func28, Tryd.ntmps28
        go_wp2_with (first
          | (go_at_call 17; (with_reducible refine HV.out.mono ?_); rintro e w1 ⟨rfl, hb1⟩)
          | (go_at_call 34; (with_reducible refine (HI.out _ hb1).mono ?_); rintro e w2 ⟨rfl, hb2⟩; have hb12 := hb1.then hb2)
          | (go_at_call 40; (with_reducible refine (HC.out _ hb12).mono ?_); rintro e w3 ⟨u, rfl, hb3, hA⟩; have hb13 := hb12.then hb3)
          | (go_at_call 31; (with_reducible refine (HN.out _ hb13).mono ?_); rintro e w4 ⟨rfl, hb4, hM⟩; have hL := look_tab Hn.out hM Hx.out true; rw [Hp.out] at hL))
        go_ret3
        exact adr_end Hr.out rfl (hb13.then hb4) (((hA.after hb4).hi).weaken fun b hb => Nat.le_trans hb12.size hb)
      | none =>
        rw [hp] at hr
        simp only at hr
        have Hp := Lib.hid hp
        clear hp
        by_cases h5 : 500 ≤ t.length
        · rw [if_pos h5] at hr
          have Hr := Lib.hid hr
          have h5' : (t.length : Int) = 500 := by omega
          clear hr
          go_enter Tryd.func28, Tryd.ntmps28
          go_wp2_with (first
            | (go_at_call 17; (with_reducible refine HV.out.mono ?_); rintro e w1 ⟨rfl, hb1⟩)
            | (go_at_call 34; (with_reducible refine (HI.out _ hb1).mono ?_); rintro e w2 ⟨rfl, hb2⟩; have hb12 := hb1.then hb2)
            | (go_at_call 40; (with_reducible refine (HC.out _ hb12).mono ?_); rintro e w3 ⟨u, rfl, hb3, hA⟩; have hb13 := hb12.then hb3)
            | (go_at_call 31; (with_reducible refine (HN.out _ hb13).mono ?_); rintro e w4 ⟨rfl, hb4, hM⟩; have hL := look_tab Hn.out hM Hx.out true; rw [Hp.out] at hL))
          go_ret3
          exact adr_end Hr.out rfl (hb13.then hb4) Sl.nil
        · rw [if_neg h5] at hr
          have Hr := Lib.hid hr
          have h5' : ¬ ((t.length : Int) = 500) := by omega
          clear hr
          go_enter Tryd.func28, Tryd.ntmps28
          go_wp2_with (first
            | (go_at_call 17; (with_reducible refine HV.out.mono ?_); rintro e w1 ⟨rfl, hb1⟩)
            | (go_at_call 34; (with_reducible refine (HI.out _ hb1).mono ?_); rintro e w2 ⟨rfl, hb2⟩; have hb12 := hb1.then hb2)
            | (go_at_call 40; (with_reducible refine (HC.out _ hb12).mono ?_); rintro e w3 ⟨u, rfl, hb3, hA⟩; have hb13 := hb12.then hb3)
            | (go_at_call 31; (with_reducible refine (HN.out _ hb13).mono ?_); rintro e w4 ⟨rfl, hb4, hM⟩
               have hL := look_tab Hn.out hM Hx.out true
               rw [Hp.out] at hL
               have hb14 := hb13.then hb4
               have hA2 := (hA.after hb4).alloc (.cells #[.string x] 9)
               have hb5 := bw_al hb14 (.cells #[.string x] 9)
               have hbs : w2.heap.size ≤ (w4.alloc (.cells #[.string x] 9)).heap.size := (bw_al (hb3.then hb4) _).size)
            | (at_builtin; first
              | (refine wpList_app_one rfl _ _ rfl Tryd.underlying22 hi hz0 hz1 hzb rfl rfl hA2 rfl (at_new rfl) ⟨rfl, Hx.out⟩ (by unfold maxLen; omega) (by omega) hbs ?_
                 intro v1 w5 hA3 hg3 hat3
                 have hb6 := Acc.bw hb5 hg3 (fun g e => (hA2.own g e).1) hb12.size
                 obtain ⟨V, vc, hv, _, _⟩ := hA3.form
                 rw [List.length_append] at hv
                 subst hv)))
          go_ret3
          exact adr_end Hr.out (by simp) hb6 (hA3.hi.weaken fun b hb => Nat.le_trans hb12.size hb)
end Go.Proofs.YtfdmpbihepkjnaaDoor

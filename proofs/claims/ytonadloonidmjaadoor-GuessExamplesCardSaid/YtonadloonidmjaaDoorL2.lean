/- The walk of the statement GuessExamples. -/
import Derived.Test.YtonadloonidmjaaDoorGB
namespace Go.Proofs.YtonadloonidmjaaDoor
open Go.RowKit
open Pl

def sA : ByteArray := ⟨#[65]⟩
def sB : ByteArray := ⟨#[66]⟩
def sC : ByteArray := ⟨#[67]⟩
theorem lx1 : learnP nounsL 41 = ([], 1) := by kernel_rfl
theorem lx2 : learnP nounsL (-1) = ([], 1) := by kernel_rfl
theorem lx3 : learnP [([0], sN)] 1 = ([], 1) := by kernel_rfl
theorem lx4 : learnP [([], ⟨#[]⟩)] 1 = ([], 1) := by kernel_rfl
theorem lx5 : learnP [] 3 = ([], 0) := by kernel_rfl
theorem gx1 : guessP [([], sN, 0)] [] = ([], 1) := by kernel_rfl
theorem gx2 : guessP [([], sN, 1), ([], sN, 1)] [] = ([], 1) := by kernel_rfl
theorem gx3 : guessP [([5], sN, 1)] [5, 6] = ([], 4) := by kernel_rfl
theorem gx4 : guessP [([], sN, 30001)] [] = ([], 1) := by kernel_rfl
theorem gx5 : guessP [([], sA, 1), ([], sB, 3), ([], sC, 3)] [7] = ([([], sB, 3), ([], sC, 3), ([], sA, 1)], 0) := by kernel_rfl
theorem wx1 : wholeP nounsL [] = [] := by kernel_rfl
theorem wx2 : wholeP [([], ⟨#[]⟩)] [] = [] := by kernel_rfl

theorem rd_kn1 {w : World} {g : Nat} {u : Value} {x : Kn} (hg : g = w.heap.size) (h : Rd tInt w u x.1) (hs : x.2.size ≤ maxLen) : Rd tKn (w.alloc (.cells #[u, .string x.2] 27)) (.slice (some ⟨g, 0, none⟩) 1 1) [x] :=
  sl_kn (xs := [x]) (us := [u, .string x.2]) (at_new hg) (by simp; omega) (by simp [maxLen]) fun j y hj => by
    match j, hj with
    | 0, hj => injection hj with hj; subst hj; exact ⟨_, rfl, rfl, h.alloc _, hs⟩
theorem rd_en1 {w : World} {g : Nat} {u : Value} {x : En} (hg : g = w.heap.size) (h : Rd tInt w u x.1) (hs : x.2.1.size ≤ maxLen) (hn : inI64 x.2.2) : Rd tEn (w.alloc (.cells #[u, .string x.2.1, .int .i64 x.2.2] 37)) (.slice (some ⟨g, 0, none⟩) 1 1) [x] :=
  sl_en (xs := [x]) (us := [u, .string x.2.1, .int .i64 x.2.2]) (at_new hg) (by simp; omega) (by simp [maxLen]) fun j y hj => by
    match j, hj with
    | 0, hj => injection hj with hj; subst hj; exact ⟨_, rfl, rfl, rfl, h.alloc _, hs, hn⟩
theorem rd_en2 {w : World} {g : Nat} {u1 u2 : Value} {x y : En} (hg : g = w.heap.size) (h1 : Rd tInt w u1 x.1) (h2 : Rd tInt w u2 y.1) (hs : x.2.1.size ≤ maxLen ∧ y.2.1.size ≤ maxLen) (hn : inI64 x.2.2 ∧ inI64 y.2.2) :
    Rd tEn (w.alloc (.cells #[u1, .string x.2.1, .int .i64 x.2.2, u2, .string y.2.1, .int .i64 y.2.2] 37)) (.slice (some ⟨g, 0, none⟩) 2 2) [x, y] :=
  sl_en (xs := [x, y]) (us := [u1, .string x.2.1, .int .i64 x.2.2, u2, .string y.2.1, .int .i64 y.2.2]) (at_new hg) (by simp; omega) (by simp [maxLen]) fun j z hj => by
    match j, hj with
    | 0, hj => injection hj with hj; subst hj; exact ⟨_, rfl, rfl, rfl, h1.alloc _, hs.1, hn.1⟩
    | 1, hj => injection hj with hj; subst hj; exact ⟨_, rfl, rfl, rfl, h2.alloc _, hs.2, hn.2⟩
theorem rd_en3 {w : World} {g : Nat} {u1 u2 u3 : Value} {x y z : En} (hg : g = w.heap.size) (h1 : Rd tInt w u1 x.1) (h2 : Rd tInt w u2 y.1) (h3 : Rd tInt w u3 z.1) (hs : x.2.1.size ≤ maxLen ∧ y.2.1.size ≤ maxLen ∧ z.2.1.size ≤ maxLen) (hn : inI64 x.2.2 ∧ inI64 y.2.2 ∧ inI64 z.2.2) :
    Rd tEn (w.alloc (.cells #[u1, .string x.2.1, .int .i64 x.2.2, u2, .string y.2.1, .int .i64 y.2.2, u3, .string z.2.1, .int .i64 z.2.2] 37)) (.slice (some ⟨g, 0, none⟩) 3 3) [x, y, z] :=
  sl_en (xs := [x, y, z]) (us := [u1, .string x.2.1, .int .i64 x.2.2, u2, .string y.2.1, .int .i64 y.2.2, u3, .string z.2.1, .int .i64 z.2.2]) (at_new hg) (by simp; omega) (by simp [maxLen]) fun j q hj => by
    match j, hj with
    | 0, hj => injection hj with hj; subst hj; exact ⟨_, rfl, rfl, rfl, h1.alloc _, hs.1, hn.1⟩
    | 1, hj => injection hj with hj; subst hj; exact ⟨_, rfl, rfl, rfl, h2.alloc _, hs.2.1, hn.2.1⟩
    | 2, hj => injection hj with hj; subst hj; exact ⟨_, rfl, rfl, rfl, h3.alloc _, hs.2.2, hn.2.2⟩
theorem rd_intsg {w : World} {g : Nat} {xs : List Int} {n : Nat} (hg : g = w.heap.size) (hn : n = xs.length) (hl : xs.length ≤ 100) (hr : (xs.all fun y => decide (0 ≤ y) && decide (y ≤ 1000)) = true) :
    Rd tInt (w.alloc (.cells (xs.map (Value.int .i64)).toArray 3)) (.slice (some ⟨g, 0, none⟩) n n) xs := sl_ints (at_new hg) (by simp; omega) hn hl hr
theorem end0_any {t : ByteArray} {n : Int} {w : World} : Calls Tryd.prog 14 #[.string t, .int .i64 n, .slice none 0 0] w fun e w' => e = .returned (.agg #[.slice none 0 0, .string t, .int .i64 n]) ∧ Bw w w' := end_any ⟨none, 0, 0, rfl⟩
set_option maxRecDepth 100000 in
set_option maxHeartbeats 16000000 in
theorem examples_walk {w : World} (hT : Tb w) : Calls Tryd.prog 4 #[] w fun e w' => e = .returned (.bool true) ∧ Bw w w' := by
  go_enter Tryd.func4, Tryd.ntmps4
  go_wp2_with fail
  with_reducible refine nouns_any.mono ?_
  rintro e w1 ⟨v1, rfl, k1, hv1⟩
  obtain ⟨A1, n1, c1, rfl, _, _, _⟩ := hv1.form'
  have HL := Lib.hid (learn_of (hT.after k1) hv1.rd lx1)
  clear hv1
  go_wp2_with fail
  with_reducible refine HL.out.mono ?_
  rintro e w2 ⟨v2, rfl, q2, _⟩
  have k2 := k1.then q2
  clear HL q2
  go_wp2_with fail
  with_reducible refine nouns_any.mono ?_
  rintro e w3 ⟨v3, rfl, q3, hv3⟩
  have k3 := k2.then q3
  obtain ⟨A3, n3, c3, rfl, _, _, _⟩ := hv3.form'
  have HL := Lib.hid (learn_of (hT.after k3) hv3.rd lx2)
  clear hv3 q3
  go_wp2_with fail
  with_reducible refine HL.out.mono ?_
  rintro e w4 ⟨v4, rfl, q4, _⟩
  have k4 := k3.then q4
  clear HL q4
  go_wp2_with fail
  refine (learn_of (l := [([0], sN)]) (hT.after (bw_al (bw_al k4 _) _)) (rd_kn1 (x := ([0], sN)) (by simp) (rd_intsg (xs := [0]) rfl rfl (by decide) rfl) (by decide)) lx3).mono ?_
  rintro e w5 ⟨v5, rfl, q5, _⟩
  have k5 := (bw_al (bw_al k4 _) _).then q5
  clear q5
  go_wp2_with fail
  refine (learn_of (l := [([], ⟨#[]⟩)]) (hT.after (bw_al k5 _)) (rd_kn1 (x := ([], ⟨#[]⟩)) rfl Sl.nil (by decide)) lx4).mono ?_
  rintro e w6 ⟨v6, rfl, q6, _⟩
  have k6 := (bw_al k5 _).then q6
  clear q6
  go_wp2_with fail
  with_reducible refine end0_any.mono ?_
  rintro e w7 ⟨rfl, q7⟩
  have k7 := k6.then q7
  clear q7
  go_wp2_with fail
  refine (guess_of (g := [([], sN, 0)]) (x := []) (hT.after (bw_al k7 _)) (rd_en1 (x := ([], sN, 0)) rfl Sl.nil (by decide) (by simp [inI64])) Sl.nil (by decide) gx1).mono ?_
  rintro e w8 ⟨v8, rfl, q8, _⟩
  have k8 := (bw_al k7 _).then q8
  clear q8
  go_wp2_with fail
  with_reducible refine end0_any.mono ?_
  rintro e w9 ⟨rfl, q9⟩
  have k9 := k8.then q9
  clear q9
  go_wp2_with fail
  with_reducible refine end0_any.mono ?_
  rintro e w10 ⟨rfl, q10⟩
  have k10 := k9.then q10
  clear q10
  go_wp2_with fail
  refine (guess_of (g := [([], sN, 1), ([], sN, 1)]) (x := []) (hT.after (bw_al k10 _)) (rd_en2 (x := ([], sN, 1)) (y := ([], sN, 1)) rfl Sl.nil Sl.nil ⟨by decide, by decide⟩ ⟨by simp [inI64], by simp [inI64]⟩) Sl.nil (by decide) gx2).mono ?_
  rintro e w11 ⟨v11, rfl, q11, _⟩
  have k11 := (bw_al k10 _).then q11
  clear q11
  go_wp2_with fail
  refine (end_any (t := ⟨#[78]⟩) (n := 1) ⟨_, _, _, rfl⟩).mono ?_
  rintro e w12 ⟨rfl, q12⟩
  have k12 := (bw_al k11 _).then q12
  have h12 : Rd tInt w12 (.slice (some ⟨w11.heap.size, 0, none⟩) 1 1) [5] := (rd_intsg (xs := [5]) rfl rfl (by decide) rfl).after q12
  clear q12
  go_wp2_with fail
  refine (guess_of (g := [([5], sN, 1)]) (x := [5, 6]) (hT.after (bw_al (bw_al k12 _) _)) ((rd_en1 (x := ([5], sN, 1)) rfl h12 (by decide) (by simp [inI64])).alloc _) (rd_intsg (xs := [5, 6]) (by simp) rfl (by decide) rfl) (by decide) gx3).mono ?_
  rintro e w13 ⟨v13, rfl, q13, _⟩
  have k13 := (bw_al (bw_al k12 _) _).then q13
  clear q13 h12
  go_wp2_with fail
  with_reducible refine end0_any.mono ?_
  rintro e w14 ⟨rfl, q14⟩
  have k14 := k13.then q14
  clear q14
  go_wp2_with fail
  refine (guess_of (g := [([], sN, 30001)]) (x := []) (hT.after (bw_al k14 _)) (rd_en1 (x := ([], sN, 30001)) rfl Sl.nil (by decide) (by simp [inI64])) Sl.nil (by decide) gx4).mono ?_
  rintro e w15 ⟨v15, rfl, q15, _⟩
  have k15 := (bw_al k14 _).then q15
  clear q15
  go_wp2_with fail
  refine (learn_of (l := []) (hT.after k15) Sl.nil lx5).mono ?_
  rintro e w16 ⟨v16, rfl, q16, hv16⟩
  have k16 := k15.then q16
  obtain ⟨A16, n16, c16, rfl, _, _, hn16⟩ := hv16.form'
  have hn16 : n16 = 0 := hn16.out
  subst hn16
  clear q16 hv16
  go_wp2_with fail
  with_reducible refine end0_any.mono ?_
  rintro e w17 ⟨rfl, q17⟩
  have k17 := k16.then q17
  clear q17
  go_wp2_with fail
  with_reducible refine end0_any.mono ?_
  rintro e w18 ⟨rfl, q18⟩
  have k18 := k17.then q18
  clear q18
  go_wp2_with fail
  with_reducible refine end0_any.mono ?_
  rintro e w19 ⟨rfl, q19⟩
  have k19 := k18.then q19
  clear q19
  go_wp2_with fail
  refine (guess_of (g := [([], sA, 1), ([], sB, 3), ([], sC, 3)]) (x := [7]) (hT.after (bw_al (bw_al k19 _) _)) ((rd_en3 (x := ([], sA, 1)) (y := ([], sB, 3)) (z := ([], sC, 3)) rfl Sl.nil Sl.nil Sl.nil ⟨by decide, by decide, by decide⟩ ⟨by simp [inI64], by simp [inI64], by simp [inI64]⟩).alloc _) (rd_intsg (xs := [7]) (by simp) rfl (by decide) rfl) (by decide) gx5).mono ?_
  rintro e w20 ⟨v20, rfl, q20, hv20⟩
  have k20 := (bw_al (bw_al k19 _) _).then q20
  have Hv20 := Lib.hid hv20
  clear q20 hv20
  go_wp2_with fail
  with_reducible refine end0_any.mono ?_
  rintro e w21 ⟨rfl, q21⟩
  go_wp2_with fail
  with_reducible refine end0_any.mono ?_
  rintro e w22 ⟨rfl, q22⟩
  go_wp2_with fail
  with_reducible refine end0_any.mono ?_
  rintro e w23 ⟨rfl, q23⟩
  have q23 := (q21.then q22).then q23
  have k23 := k20.then q23
  clear q21 q22
  go_wp2_with fail
  refine (val_of (congrArg Value.bool (show same ([([], sB, 3), ([], sC, 3), ([], sA, 1)] : List En) ([([], sB, 3), ([], sC, 3), ([], sA, 1)] : List En) = true from decide_eq_true rfl)) (sameE_any ((bw_hi Hv20.out q23).alloc _) (rd_en3 (x := ([], sB, 3)) (y := ([], sC, 3)) (z := ([], sA, 1)) rfl Sl.nil Sl.nil Sl.nil ⟨by decide, by decide, by decide⟩ ⟨by simp [inI64], by simp [inI64], by simp [inI64]⟩))).mono ?_
  rintro e w24 ⟨rfl, q24⟩
  have k24 := (bw_al k23 _).then q24.bw
  clear q23 q24 Hv20
  go_wp2_with fail
  with_reducible refine nouns_any.mono ?_
  rintro e w25 ⟨v25, rfl, q25, hv25⟩
  have k25 := k24.then q25
  obtain ⟨A25, n25, c25, rfl, _, _, _⟩ := hv25.form'
  have HW := Lib.hid (whole_of (l := nounsL) (u := .slice none 0 0) (hT.after k25) hv25.rd Sl.nil (by decide) wx1)
  clear q25 hv25
  go_wp2_with fail
  with_reducible refine HW.out.mono ?_
  rintro e w26 ⟨v26, rfl, q26, hv26⟩
  have k26 := k25.then q26
  obtain ⟨A26, n26, c26, rfl, _, _, hn26⟩ := hv26.form'
  have hn26 : n26 = 0 := hn26.out
  subst hn26
  clear q26 hv26 HW
  go_wp2_with fail
  refine (whole_of (l := [([], ⟨#[]⟩)]) (u := .slice none 0 0) (hT.after (bw_al k26 _)) (rd_kn1 (x := ([], ⟨#[]⟩)) rfl Sl.nil (by decide)) Sl.nil (by decide) wx2).mono ?_
  rintro e w27 ⟨v27, rfl, q27, hv27⟩
  have k27 := (bw_al k26 _).then q27
  obtain ⟨A27, n27, c27, rfl, _, _, hn27⟩ := hv27.form'
  have hn27 : n27 = 0 := hn27.out
  subst hn27
  clear q27 hv27
  go_wp2_with fail
  with_reducible refine (awake_any (hT.after k27)).mono ?_
  rintro e w28 ⟨rfl, q28⟩
  go_wp2_with fail
  go_ret
  exact ⟨rfl, k27.then q28⟩
end Go.Proofs.YtonadloonidmjaaDoor

/- The walk of the statement HyphenExamples. -/
import Derived.Test.YtockfkmemoggiaaSJ
import Derived.Deep.RegionHeld3
import Derived.OwnWalk
namespace Go.Proofs.Ytockfkmemoggiaa
open Go.RowKit
open Pl

def lenOf : Value → Nat
  | .slice _ n _ => n
  | _ => 0
def lng : Nat → List Int
  | 0 => []
  | k + 1 => lng k ++ [1, 3]
theorem lng_len : ∀ k, (lng k).length = 2 * k
  | 0 => rfl
  | k + 1 => by rw [lng, List.length_append, lng_len k]; simp; omega
theorem F1 : okB snd0 (lng 100) = true := by decide +kernel
theorem F2 : (sylR snd0 (lng 100)).length = 100 := by rw [← syl_one F1]; decide +kernel
theorem F3 : hyE snd0 (lng 100) 9 = 2 := by
  unfold hyE hyw
  rw [← syl_one F1]
  decide +kernel
theorem F1' : okB snd0 ((lng 100).take 134) = true := by decide +kernel
theorem F5 : (hyw snd0 ((lng 100).take 134) 9).length = 200 := by
  unfold hyw
  rw [← syl_one F1']
  decide +kernel
theorem F4 : hyE snd0 ((lng 100).take 134) 9 = 0 := by
  unfold hyE
  rw [F5]
  decide +kernel
theorem F6 : hyE snd0 (lng 100 ++ [1]) 9 = 1 := by
  have : (okB snd0 (lng 100 ++ [1]) && markB snd0 9) = false := by decide +kernel
  unfold hyE
  rw [this]
  rfl
theorem F7 : hyE snd0 [] 0 = 1 := by decide +kernel
theorem F8 : hyE snd0 [] 501 = 1 := by decide +kernel
theorem F9 : hyE snd0 [] 500 = 0 := by decide +kernel
theorem F10 : hyw snd0 [] 500 = [] := by decide +kernel
theorem G1 : (validB ⟨[1, 1], [], []⟩ && markB ⟨[1, 1], [], []⟩ 9) = false := by decide +kernel
theorem G2 : (validB snd0 && markB snd0 1) = false := by decide +kernel
theorem G3 : validB ⟨[], [], []⟩ = true := by decide +kernel

theorem sz_alloc (w : World) (o : Obj) : (w.alloc o).heap.size = w.heap.size + 1 := by simp
theorem own_sl {g n c : Nat} {k : Nat} (h : (Value.slice (some ⟨g, 0, none⟩) n c).ownBlock = some k) : g = k := by injection h
theorem at_old_eq {w : World} {o : Obj} {g : Nat} (h : g < w.heap.size) : (w.alloc o).heap[g]? = w.heap[g]? := Below.heap_alloc w o g h
theorem Sl.hiA {α : Type} {T : Ty α} {w w' : World} {v : Value} {xs : List α} {n : Nat} (h : Sl T w (fun b => n ≤ b ∧ b < w.heap.size) v xs) (hb : Bw w w') : Sl T w' (Hi n) v xs :=
  (h.below hb (fun _ hb => hb.2)).weaken fun _ hb => hb.1
theorem Sl.apart {α : Type} {T : Ty α} {X w w' : World} {v : Value} {xs : List α} {g : Nat} {o : Obj} (h : Sl T w (Hi X.heap.size) v xs) (hg : (w.alloc o).grownBy w' (some g)) (hgx : g < X.heap.size) : Rd T w' v xs :=
  Sl.rd (D := Hi X.heap.size) (h.lt.keep fun b hb => ⟨hb.1, (hg.block b (by rw [sz_alloc]; have := hb.2; omega) (fun e => by injection e with e; have := hb.1; omega)).trans (at_old_eq hb.2)⟩)
/-- The sounds of the examples stand in new memory. -/
theorem sounds_hi {w : World} : Calls Try.prog 19 #[] w fun e w' => (∃ a b c, e = .returned (.agg #[a, b, c]) ∧ Sl tInt w' (Hi w.heap.size) a [1, 2] ∧ Sl tInt w' (Hi w.heap.size) b [3, 4, 5, 6] ∧ Sl (tSlice tInt) w' (Hi w.heap.size) c [[3, 4]]) ∧ Bw w w' := by
  go_enter Try.func19, Try.ntmps19
  go_wp2
  refine bodyPost_ret (v := .agg #[.slice (some ⟨w.heap.size + 1, 0, none⟩) 2 2, .slice (some ⟨w.heap.size + 1 + 1, 0, none⟩) 4 4, .slice (some ⟨w.heap.size + 1 + 1 + 1 + 1, 0, none⟩) 1 1]) ?_ rfl ⟨⟨_, _, _, rfl, ?_⟩, bw_al (bw_al (bw_al (bw_al (bw_al (Below.refl _ _) _) _) _) _) _⟩
  · simp [results, Try.results19, go_sem]
  · generalize hW : (w.alloc _) = w0
    have s0 : w0.heap.size = w.heap.size + 1 := by rw [← hW]; simp
    clear hW
    generalize w.heap.size = n at *
    refine ⟨?_, ?_, ?_⟩
    · exact Sl.hiA (sl_lit (w := w0.alloc _) (xs := [1, 2]) (at_new s0.symm) (by simp [s0]) (by simp [maxLen]) (by simp)) (bw_al (bw_al (bw_al (Below.refl _ _) _) _) _)
    · exact Sl.hiA (sl_lit (w := (w0.alloc _).alloc _) (xs := [3, 4, 5, 6]) (at_new (by simp [s0])) (by simp [s0]; omega) (by simp [maxLen]) (by simp)) (bw_al (bw_al (Below.refl _ _) _) _)
    · exact sl_lit1 (at_new (by simp [s0])) (by show n ≤ _; omega) (Sl.hiA (sl_lit (w := ((w0.alloc _).alloc _).alloc _) (xs := [3, 4]) (at_new (by simp [s0])) (by simp [s0]; omega) (by simp [maxLen]) (by simp)) (bw_al (Below.refl _ _) _))

set_option maxRecDepth 100000 in
set_option maxHeartbeats 4000000 in
theorem examples_walk {w : World} : Calls Try.prog 6 #[] w fun e w' => e = .returned (.bool true) ∧ Bw w w' := by
  obtain ⟨i0, hi, hz0, hz1, hz2⟩ := info_parts infoI
  go_enter Try.func6, Try.ntmps6
  go_wp2_with (at_make; refine wpList_make_own _ rfl _ _ 22 rfl w.heap.size 3 i0 (.int .i64 0) 1 Try.underlying22 hi hz0 hz1 .i64 .i64 _ 200 rfl rfl rfl (by rw [hz2]; omega) (by unfold maxLen; omega) (Nat.le_refl _) ?_; intro w0 hown0 hgrow0)
  have hb0 : Bw w w0 := ⟨hgrow0.os, hgrow0.tape, hgrow0.output, hgrow0.size, fun k hk => hgrow0.block k hk (by simp)⟩
  have hA0 : Acc tInt 3 w0 w.heap.size (.slice (some ⟨w.heap.size, 0, none⟩) 0 200) [] := ⟨[], hown0, rfl, fun j x cs h => by simp at h⟩
  go_loopw [1] (fun l wr => ∃ k : Nat, k ≤ 100 ∧ Bw w wr ∧ Acc tInt 3 wr w.heap.size l (lng k)) (fun l _ => 200 - (lenOf l))
  case atStart => exact ⟨0, Nat.zero_le _, hb0, hA0⟩
  case round =>
    obtain ⟨k, hk, hbr, hA⟩ := hrel
    have hlen := Lib.hid (lng_len k)
    by_cases hlt : k < 100
    · have hA0 := hA.alloc (.cells #[.int .i64 1, .int .i64 3] 3)
      have hbr0 := hbr.alloc hbr.size (.cells #[.int .i64 1, .int .i64 3] 3)
      have hl0 : Rd tInt (wr.alloc (.cells #[.int .i64 1, .int .i64 3] 3)) (.slice (some ⟨wr.heap.size, 0, none⟩) 2 2) [1, 3] := lit (xs := [1, 3]) (by simp [maxLen]) (by simp)
      have hmx : (lng k).length + ([1, 3] : List Int).length ≤ maxLen := by rw [hlen.out]; simp [maxLen]; omega
      have hby : ((lng k).length + ([1, 3] : List Int).length) * 8 ≤ 140737488355328 := by rw [hlen.out]; simp; omega
      obtain ⟨A, c, hv, _, _⟩ := hA.form
      rw [hlen.out] at hv
      subst hv
      go_wp2_with (at_builtin; refine wpList_app_sl rfl _ _ rfl Try.underlying22 hi hz0 hz1 hz2 rfl rfl hA0 rfl hl0 int_free hmx hby hbr0.size ?_; intro v1 w5 hA1 hg1 hat1; obtain ⟨A1, c1, hv1, _, _⟩ := hA1.form; rw [List.length_append, hlen.out] at hv1; subst hv1)
      exact ⟨⟨k + 1, hlt, Acc.bw hbr0 hg1 (fun g e => (hA0.own g e).1) (Nat.le_refl _), hA1⟩, by simp [lenOf]; omega⟩
    · have hk2 : k = 100 := by omega
      subst hk2
      obtain ⟨A, c, hv, hcap, _⟩ := hA.form
      rw [hlen.out] at hv hcap
      subst hv
      have hX := hA.hi.rd
      generalize hx : lng 100 = x at *
      have f1 := F1
      have f2 := F2
      have f3 := F3
      have f4 := F4
      have f5 := F5
      have f6 := F6
      rw [hx] at f1 f2 f3 f4 f5 f6
      have Gf1 := Lib.hid f1
      have Gf2 := Lib.hid f2
      have Gf3 := Lib.hid f3
      have Gf4 := Lib.hid f4
      have Gf5 := Lib.hid f5
      have Gf6 := Lib.hid f6
      clear f1 f2 f3 f4 f5 f6
      have hl134 : (x.take 134).length = 134 := by rw [List.length_take, hlen.out]; rfl
      go_wp2_with fail
      refine sounds_any.mono ?_
      rintro e v1 ⟨⟨a1, b1, c1, rfl, hs1⟩, hs1b⟩
      go_wp2_with fail
      refine (syllables_any hs1 (hX.after hs1b)).mono ?_
      rintro e v2 hr
      obtain ⟨l, rfl, hb2, hl⟩ := sy0 hr Gf1.out
      obtain ⟨L, lc, hlv, _, _⟩ := hl.form
      rw [Gf2.out] at hlv
      subst hlv
      clear hr
      go_wp2_with fail
      refine sounds_any.mono ?_
      rintro e v3 ⟨⟨a3, b3, c3, rfl, hs3⟩, hs3b⟩
      go_wp2_with fail
      refine (hyph_any hs3 (hX.after ((hs1b.then hb2).then hs3b)) (by decide) (by decide)).mono ?_
      rintro e v4 hr
      obtain ⟨y4, rfl, hb4, _⟩ := hyN hr Gf3.out (by decide)
      clear hr
      have hbw4 := ((hs1b.then hb2).then hs3b).then hb4
      obtain ⟨g, rfl⟩ : ∃ g, A = some ⟨g, 0, none⟩ := by
        obtain ⟨css, ⟨_, h1⟩, _⟩ := hA
        rcases h1 with ⟨h2, h3⟩ | ⟨g, cap, cur, h2, _⟩
        · rw [hlen.out] at h3; omega
        · injection h2 with h2; exact ⟨g, h2⟩
      have hcI : (134 : Int) ≤ (c : Int) := by omega
      have hX4 := (hX.pre (k := 134) (by rw [hlen.out]; omega)).after hbw4
      go_wp2_with fail
      go_region_held3 (fun _ => True) (exact trivial)
        ((first
          | (go_at_call 19; (with_reducible refine sounds_any.mono ?_); rintro e v5 ⟨⟨a5, b5, c5, rfl, hs5⟩, hbA⟩)
          | (go_at_call 11; (with_reducible refine (hyph_any (hs5.after (by (repeat' first | with_reducible exact Below.refl _ _ | with_reducible refine Bw.then ?_ hbA | with_reducible refine Bw.then ?_ hbB | with_reducible refine Bw.drew ?_ | with_reducible refine Bw.drewN ?_ _))) (hX4.after (by (repeat' first | with_reducible exact Below.refl _ _ | with_reducible refine Bw.then ?_ hbA | with_reducible refine Bw.then ?_ hbB | with_reducible refine Bw.drew ?_ | with_reducible refine Bw.drewN ?_ _))) (by decide) (by decide)).mono ?_); rintro e v6 hr; obtain ⟨y6, rfl, hbB, hy6⟩ := hy0 hr Gf4.out rfl; obtain ⟨Y6, yc6, hyv, _, _⟩ := hy6.form; rw [Gf5.out] at hyv; subst hyv)))
      all_goals
        go_wp2_with fail
        refine sounds_hi.mono ?_
        rintro e v7 ⟨⟨a7, b7, c7, rfl, hs7⟩, hs7b⟩
        have hw7 : Bw v4 v7 := Bw.then (by (repeat' first | with_reducible exact Below.refl _ _ | with_reducible refine Bw.then ?_ hbA | with_reducible refine Bw.then ?_ hbB | with_reducible refine Bw.drew ?_ | with_reducible refine Bw.drewN ?_ _)) hs7b
        have hA7 := (hA.after (hbw4.then hw7)).alloc (.cells #[.int .i64 1] 3)
        have hw7' := bw_al hw7 (.cells #[.int .i64 1] 3)
        have hbr7 := (hbr.then hbw4).then hw7'
        have hmx : x.length + 1 ≤ maxLen := by rw [hlen.out]; simp [maxLen]
        have hby : (x.length + 1) * 8 ≤ 140737488355328 := by rw [hlen.out]; decide
        have hgz := (hA.own g rfl).2
        go_wp2_with (at_builtin; first
          | (refine wpList_app_one rfl _ _ rfl Try.underlying22 hi hz0 hz1 hz2 rfl rfl hA7 rfl (at_new rfl) ⟨rfl, by decide, by decide⟩ hmx hby hbr7.size ?_
             intro u8 v8 hA8 hg8 hat8
             obtain ⟨U8, uc8, hu8, _, _⟩ := hA8.form
             rw [List.length_append, hlen.out] at hu8
             subst hu8
             have hw8 : Bw w v8 := Acc.bw hbr7 hg8 (fun g e => (hA7.own g e).1) (Nat.le_refl _)
             have hs8 : SndR v8 a7 b7 c7 snd0 := ⟨hs7.1.apart hg8 (Nat.lt_of_lt_of_le hgz (hbw4.then (by (repeat' first | with_reducible exact Below.refl _ _ | with_reducible refine Bw.then ?_ hbA | with_reducible refine Bw.then ?_ hbB | with_reducible refine Bw.drew ?_ | with_reducible refine Bw.drewN ?_ _))).size), hs7.2.1.apart hg8 (Nat.lt_of_lt_of_le hgz (hbw4.then (by (repeat' first | with_reducible exact Below.refl _ _ | with_reducible refine Bw.then ?_ hbA | with_reducible refine Bw.then ?_ hbB | with_reducible refine Bw.drew ?_ | with_reducible refine Bw.drewN ?_ _))).size), hs7.2.2.apart hg8 (Nat.lt_of_lt_of_le hgz (hbw4.then (by (repeat' first | with_reducible exact Below.refl _ _ | with_reducible refine Bw.then ?_ hbA | with_reducible refine Bw.then ?_ hbB | with_reducible refine Bw.drew ?_ | with_reducible refine Bw.drewN ?_ _))).size)⟩))
        refine (hyph_any hs8 hA8.hi.rd (by decide) (by decide)).mono ?_
        rintro e v9 hr
        obtain ⟨y9, rfl, hb9, _⟩ := hyN hr Gf6.out (by decide)
        have hw9 := hw8.then hb9
        clear hr
        go_wp2_with fail
        refine sounds_any.mono ?_
        rintro e v10 ⟨⟨a10, b10, c10, rfl, hs10⟩, hs10b⟩
        have hw10 := hw9.then hs10b
        go_wp2_with fail
        refine (hyph_any (x := []) (m := 0) hs10 Sl.nil (by decide) (by decide)).mono ?_
        rintro e v11 hr
        obtain ⟨y11, rfl, hb11, _⟩ := hyN hr F7 (by decide)
        have hw11 := hw10.then hb11
        clear hr
        go_wp2_with fail
        refine sounds_any.mono ?_
        rintro e v12 ⟨⟨a12, b12, c12, rfl, hs12⟩, hs12b⟩
        have hw12 := hw11.then hs12b
        go_wp2_with fail
        refine (hyph_any (x := []) (m := 501) hs12 Sl.nil (by decide) (by decide)).mono ?_
        rintro e v13 hr
        obtain ⟨y13, rfl, hb13, _⟩ := hyN hr F8 (by decide)
        have hw13 := hw12.then hb13
        clear hr
        go_wp2_with fail
        refine sounds_any.mono ?_
        rintro e v14 ⟨⟨a14, b14, c14, rfl, hs14⟩, hs14b⟩
        have hw14 := hw13.then hs14b
        go_wp2_with fail
        refine (hyph_any (x := []) (m := 500) hs14 Sl.nil (by decide) (by decide)).mono ?_
        rintro e v15 hr
        obtain ⟨y15, rfl, hb15, hy15⟩ := hy0 hr F9 F10
        obtain ⟨Y15, yc15, rfl, _, _⟩ := hy15.form
        have hw15 := hw14.then hb15
        clear hr
        have hw15' := bw_al hw15 (.cells #[.int .i64 1, .int .i64 1] 3)
        go_wp2_with fail
        refine (rules_any (s := ⟨[1, 1], [], []⟩) (m := 9) ⟨lit (xs := [1, 1]) (by simp [maxLen]) (by simp), Sl.nil, Sl.nil⟩ (by decide) (by decide) (.inr G1)).mono ?_
        rintro e v16 ⟨A16, n16, he, hb16, hn16⟩
        rw [G1] at he hn16
        subst he
        have hw16 := hw15'.then hb16
        go_wp2_with fail
        refine sounds_any.mono ?_
        rintro e v17 ⟨⟨a17, b17, c17, rfl, hs17⟩, hs17b⟩
        have hw17 := hw16.then hs17b
        go_wp2_with fail
        refine (rules_any (m := 1) hs17 (by decide) (by decide) (.inr G2)).mono ?_
        rintro e v18 ⟨A18, n18, he, hb18, hn18⟩
        rw [G2] at he hn18
        subst he
        have hw18 := hw17.then hb18
        go_wp2_with fail
        refine (val_of (congrArg Value.bool G3) (pvalid_any (s := ⟨[], [], []⟩) ⟨Sl.nil, Sl.nil, Sl.nil⟩)).mono ?_
        rintro e v19 ⟨rfl, hb19⟩
        go_wp2_with fail
        refine awake_any.mono ?_
        rintro e v20 ⟨rfl, hb20⟩
        go_wp2_with fail
        go_ret
        exact ⟨rfl, (hw18.then hb19).then hb20⟩
end Go.Proofs.Ytockfkmemoggiaa

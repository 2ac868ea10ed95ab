/- The walk of the statement HyphenWhole. -/
import Derived.Test.YtockfkmemoggiaaSJ
import Derived.Test.YtockfkmemoggiaaPlain3
import Derived.Deep.RegionHeld3
namespace Go.Proofs.Ytockfkmemoggiaa
open Go.RowKit
open Pl

/-- A list of ints stands where another list grows. -/
theorem Acc.grownI {e : TypeId} {w w' : World} {base : Nat} {v : Value} {xs : List Int} (h : Acc tInt e w base v xs) {row : Option Nat} (hg : w.grownBy w' row) (hr : v.ownBlock = none ∨ v.ownBlock ≠ row) : Acc tInt e w' base v xs := by
  obtain ⟨css, h1, h2, h3⟩ := h
  exact ⟨css, h1.kept hg hr, h2, h3⟩
/-- Two lists share no block of their own. -/
def Dj (u v : Value) : Prop := ∀ g, u.ownBlock = some g → v.ownBlock = some g → False
theorem Dj.symm {u v : Value} (h : Dj u v) : Dj v u := fun g h1 h2 => h g h2 h1
theorem Dj.ne {u v : Value} (h : Dj u v) : u.ownBlock = none ∨ u.ownBlock ≠ v.ownBlock := by
  cases hu : u.ownBlock with
  | none => exact .inl rfl
  | some g => exact .inr fun e => h g hu e.symm
theorem Dj.step {u v v' : Value} {w : World} (h : Dj u v) (hat : v'.ownBlock = v.ownBlock ∨ v'.ownBlock = some w.heap.size) (hu : ∀ g, u.ownBlock = some g → g < w.heap.size) : Dj u v' := fun g h1 h2 => by
  rcases hat with e | e
  · exact h g h1 (e ▸ h2)
  · have := hu g h1
    rw [e] at h2
    injection h2 with h2
    omega

set_option maxRecDepth 100000 in
set_option maxHeartbeats 4000000 in
theorem whole_walk {a b c v : Value} {s : Snd} {x : List Int} {m : Int} {w : World} (h : SndR w a b c s) (hx : Rd tInt w v x) (hm1 : -9223372036854775808 ≤ m) (hm2 : m ≤ 9223372036854775807) :
    Calls Try.prog 4 #[.agg #[a, b, c], v, .int .i64 m] w fun e w' => e = .returned (.bool true) ∧ Bw w w' := by
  obtain ⟨i0, hi, hz0, hz1, hz2⟩ := info_parts infoI
  have hB : Bw w (w.alloc (.cells #[a, b, c] 25)) := (Below.refl _ _).alloc (Nat.le_refl _) _
  have hs0 := h.alloc (.cells #[a, b, c] 25)
  have hx0 := hx.alloc (.cells #[a, b, c] 25)
  have HL := Lib.hid (large_any hs0)
  obtain ⟨A, cc, rfl, _, _⟩ := hx.form
  clear h hx
  cases hl : largeB s
  · have Hl := Lib.hid hl
    clear hl
    by_cases h3 : 300 < x.length
    · go_enter Try.func4, Try.ntmps4
      go_wp2_with fail
      refine (val_of (congrArg Value.bool Hl.out) HL.out).mono ?_
      rintro e w1 ⟨rfl, hb1⟩
      go_wp2_with fail
      refine awake_any.mono ?_
      rintro e w2 ⟨rfl, hb2⟩
      go_wp2_with fail
      go_ret
      exact ⟨rfl, (hB.then hb1).then hb2⟩
    · cases hok : okB s x
      · have Hok := Lib.hid hok
        clear hok
        go_enter Try.func4, Try.ntmps4
        go_wp2_with fail
        refine (val_of (congrArg Value.bool Hl.out) HL.out).mono ?_
        rintro e w1 ⟨rfl, hb1⟩
        obtain ⟨p0, p1, p2⟩ := box3 hb1
        have H1 := Lib.hid (syllables_any (hs0.after hb1) (hx0.after hb1))
        go_wp2_with fail
        refine H1.out.mono ?_
        rintro e w2 hr
        obtain ⟨u1, rfl, hb2, _⟩ := syN hr Hok.out
        clear hr
        go_wp2_with fail
        refine awake_any.mono ?_
        rintro e w3 ⟨rfl, hb3⟩
        go_wp2_with fail
        go_ret
        exact ⟨rfl, ((hB.then hb1).then hb2).then hb3⟩
      · have Hok := Lib.hid hok
        obtain ⟨hf1, hf2⟩ := syl_facts hok
        have Hf2 := Lib.hid hf2
        obtain ⟨hfl, hne⟩ := syl_flat (valid_ap (ok_parts hok).1) (word_wd (ok_parts hok).2).1 (valid_len (ok_parts hok).1)
        obtain ⟨hn1, hn2⟩ := syl_nuc (valid_ap (ok_parts hok).1) (word_wd (ok_parts hok).2).1 (valid_len (ok_parts hok).1)
        have h200 : x.length ≤ 200 := (word_wd (ok_parts hok).2).2
        have Hfl := Lib.hid hfl
        have Hne := Lib.hid hne
        have Hn1 := Lib.hid hn1
        have Hn2 := Lib.hid hn2
        have Htk := Lib.hid (fun k => flat_take_le (sylR s x) k)
        clear hok hf2 hfl hne hn1 hn2
        go_enter Try.func4, Try.ntmps4
        go_wp2_with fail
        refine (val_of (congrArg Value.bool Hl.out) HL.out).mono ?_
        rintro e w1 ⟨rfl, hb1⟩
        obtain ⟨p0, p1, p2⟩ := box3 hb1
        have H1 := Lib.hid (syllables_any (hs0.after hb1) (hx0.after hb1))
        go_wp2_with fail
        refine H1.out.mono ?_
        rintro e w4 hr
        obtain ⟨q, rfl, hb2, hq⟩ := sy0 hr Hok.out
        clear hr
        obtain ⟨Q, qc, rfl, _, _⟩ := hq.form
        have hc4 := hb1.then hb2
        have hu4 := hq.rd
        have hlen := hq.len_le
        clear H1 p0 p1 p2
        go_wp2_with fail
        go_loopw [9, 10, 11] (fun al ma i wr => ∃ k : Nat, k ≤ (sylR s x).length ∧ i = .int .i64 k ∧ Bw w4 wr ∧ Acc tInt 3 wr w4.heap.size al ((sylR s x).take k).flatten ∧ Acc tInt 3 wr w4.heap.size ma (joinTo m (sylR s x) k) ∧ Dj al ma) (fun _ _ i _ => (sylR s x).length - (intOf i).toNat)
        case atStart => exact ⟨0, Nat.zero_le _, rfl, Below.refl _ _, Acc.nil _ _, Acc.nil _ _, fun g h1 => by cases h1⟩
        case round =>
          obtain ⟨k, hk, rfl, hbr, hAl, hM, hdj⟩ := hrel
          by_cases hlt : k < (sylR s x).length
          · obtain ⟨bu, ou, p, pl, rfl, hp, hpr4, hc0⟩ := rd_sl hu4 (Below.refl _ _) hlt
            obtain ⟨P, pn, pc, rfl, _, _, hpn⟩ := hpr4.form'
            have hbu := World.block_lt_of_cell? w4 _ hc0
            have HC : ∀ w', Bw w4 w' → w'.cell? ⟨bu, ou + k, none⟩ = some (.slice P pn pc) := fun w' hb => (World.cell?_of_block (w := w4) (hb.block _ hbu)).trans hc0
            have hc := HC wr hbr
            have hmem := List.mem_of_getElem? hp.out
            have hpn0 : 0 < pn := by have := List.length_pos_iff.2 (Hne.out pl hmem); rw [hpn.out]; exact this
            have hpnz : ((pn : Int) == 0) = false := by simp; omega
            have Hfk := Lib.hid (flat_take (sylR s x) k pl hp.out)
            have hfk2 : ((sylR s x).take k).flatten.length + pl.length ≤ 200 := by
              have h1 := Htk.out (k + 1)
              rw [Hfk.out, Hfl.out, List.length_append] at h1
              omega
            have hl2 := Hf2.out (k + 1) m (by omega)
            have hN1 := Hn1.out pl hmem
            have hN2 : 1 < (sylR s x).length → nucN s pl = 1 := fun h => Hn2.out h pl hmem
            have hNs : (Value.int .i64 ((nucB s pl pl.length).1 : Nat) = Value.int .i64 1) ∨ ((Value.int .i64 ((nucB s pl pl.length).1 : Nat) = Value.int .i64 0) ∧ (sylR s x).length ≤ 1) := by
              have h1 : (nucB s pl pl.length).1 ≤ 1 := hN1
              have h2 : 1 < (sylR s x).length → (nucB s pl pl.length).1 = 1 := hN2
              rcases Nat.lt_or_ge 1 (sylR s x).length with h | h
              · exact .inl (by rw [h2 h]; rfl)
              · rcases Nat.lt_or_ge (nucB s pl pl.length).1 1 with h3 | h3
                · exact .inr ⟨by rw [show (nucB s pl pl.length).1 = 0 by omega]; rfl, h⟩
                · exact .inl (by rw [show (nucB s pl pl.length).1 = 1 by omega]; rfl)
            clear hN1 hN2 hmem hc0
            by_cases h0 : k = 0
            · subst h0
              have hjn : Hid (joinTo m (sylR s x) 1 = joinTo m (sylR s x) 0 ++ pl) := by
                show (joinTo m (sylR s x) 0 ++ []) ++ (sylR s x).getD 0 [] = _
                rw [getD_of hp.out, List.append_nil]
              have hpl : (joinTo m (sylR s x) 0).length + pl.length ≤ 400 := by rw [show (0 : Nat) + 1 = 1 from rfl, hjn.out] at hl2; simp at hl2; omega
              simp only [Nat.add_zero] at HC hc
              have hpr := hpr4.after hbr
              go_wp2_with (at_builtin; first
                | (refine wpList_app_sl rfl _ _ rfl Try.underlying22 hi hz0 hz1 hz2 rfl rfl hAl rfl hpr int_free (by unfold maxLen; omega) (by omega) hbr.size ?_
                   intro v1 w5 hA1 hg1 hat1
                   have hb5 : Bw w4 w5 := Acc.bw hbr hg1 (fun g e => (hAl.own g e).1) (Nat.le_refl _)
                   have hpr1 : Sl tInt w5 (fun b => b < w5.heap.size) (.slice P pn pc) pl := hpr4.after hb5
                   have hM1 := hM.grownI hg1 hdj.symm.ne
                   have hd1 := (hdj.symm.step hat1 (fun g e => (hM.own g e).2)).symm
                   have hc5 := HC w5 hb5)
                | (refine wpList_app_sl rfl _ _ rfl Try.underlying22 hi hz0 hz1 hz2 rfl rfl hM1 rfl hpr1 int_free (by unfold maxLen; omega) (by omega) hb5.size ?_
                   intro v2 w6 hM2 hg2 hat2
                   have hb6 : Bw w4 w6 := Acc.bw hb5 hg2 (fun g e => (hM1.own g e).1) (Nat.le_refl _)
                   have hA2 := hA1.grownI hg2 hd1.ne
                   have hd2 := hd1.step hat2 (fun g e => (hA1.own g e).2)))
              have hs6 := hs0.after (hc4.then hb6)
              have hpr6 := hpr4.after hb6
              have K := Lib.hid (fun w' (hb : Bw w6 w') => And.intro (box3 ((hc4.then hb6).then hb)) (HC w' (hb6.then hb)))
              rcases hNs with hv | ⟨hv, hL⟩
              all_goals
                have Hv := Lib.hid hv
                clear hv
                go_region_held3 (fun w' => (w'.cell? ⟨w.heap.size, 0, none⟩ = some a ∧ w'.cell? ⟨w.heap.size, 1, none⟩ = some b ∧ w'.cell? ⟨w.heap.size, 2, none⟩ = some c) ∧ w'.cell? ⟨bu, ou, none⟩ = some (.slice P pn pc))
                  (exact K.out _ (by (repeat' first | with_reducible exact Below.refl _ _ | with_reducible refine Bw.then ?_ hb17 | with_reducible refine Bw.drew ?_ | with_reducible refine Bw.drewN ?_ _)))
                  ((first
                    | (go_at_call 17; (with_reducible refine (val_of Hv.out (nuclei_any (hs6.after (by (repeat' first | with_reducible exact Below.refl _ _ | with_reducible refine Bw.then ?_ hb17 | with_reducible refine Bw.drew ?_ | with_reducible refine Bw.drewN ?_ _))) (hpr6.after (by (repeat' first | with_reducible exact Below.refl _ _ | with_reducible refine Bw.then ?_ hb17 | with_reducible refine Bw.drew ?_ | with_reducible refine Bw.drewN ?_ _))))).mono ?_); rintro e w17 ⟨rfl, hb17⟩)))
              all_goals
                go_wp2_with fail
                exact ⟨⟨1, by omega, by go_num, hb6.then (by (repeat' first | with_reducible exact Below.refl _ _ | with_reducible refine Bw.then ?_ hb17 | with_reducible refine Bw.drew ?_ | with_reducible refine Bw.drewN ?_ _)), by rw [Hfk.out]; exact hA2.after (by (repeat' first | with_reducible exact Below.refl _ _ | with_reducible refine Bw.then ?_ hb17 | with_reducible refine Bw.drew ?_ | with_reducible refine Bw.drewN ?_ _)), by rw [hjn.out]; exact hM2.after (by (repeat' first | with_reducible exact Below.refl _ _ | with_reducible refine Bw.then ?_ hb17 | with_reducible refine Bw.drew ?_ | with_reducible refine Bw.drewN ?_ _)), hd2⟩, by simp [intOf]; omega⟩
            · have hjn : Hid (joinTo m (sylR s x) (k + 1) = (joinTo m (sylR s x) k ++ [m]) ++ pl) := by
                show joinTo m (sylR s x) (k + 1) = _
                rw [joinTo, getD_of hp.out, if_neg h0]
              have hpl : (joinTo m (sylR s x) k).length + 1 + pl.length ≤ 400 := by rw [hjn.out] at hl2; simp at hl2; omega
              have hk0 : 0 < k := by omega
              have hM0 := hM.alloc (.cells #[.int .i64 m] 3)
              have hAl0 := hAl.alloc (.cells #[.int .i64 m] 3)
              have hbr0 : Bw w4 (wr.alloc (.cells #[.int .i64 m] 3)) := hbr.alloc hbr.size _
              go_wp2_with (at_builtin; first
                | (refine wpList_app_one rfl _ _ rfl Try.underlying22 hi hz0 hz1 hz2 rfl rfl hM0 rfl (at_new rfl) ⟨rfl, hm1, hm2⟩ (by simp [maxLen]; omega) (by omega) hbr0.size ?_
                   intro v0 w5 hM1 hg1 hat1
                   have hb5 : Bw w4 w5 := Acc.bw hbr0 hg1 (fun g e => (hM0.own g e).1) (Nat.le_refl _)
                   have hpr1 : Sl tInt w5 (fun b => b < w5.heap.size) (.slice P pn pc) pl := hpr4.after hb5
                   have hA1 := hAl0.grownI hg1 hdj.ne
                   have hd1 := hdj.step hat1 (fun g e => (hAl0.own g e).2)
                   have hc5 := HC w5 hb5)
                | (refine wpList_app_sl rfl _ _ rfl Try.underlying22 hi hz0 hz1 hz2 rfl rfl hA1 rfl hpr1 int_free (by unfold maxLen; omega) (by omega) hb5.size ?_
                   intro v1 w6 hA2 hg2 hat2
                   have hb6 : Bw w4 w6 := Acc.bw hb5 hg2 (fun g e => (hA1.own g e).1) (Nat.le_refl _)
                   have hpr2 : Sl tInt w6 (fun b => b < w6.heap.size) (.slice P pn pc) pl := hpr4.after hb6
                   have hM2 := hM1.grownI hg2 hd1.symm.ne
                   have hd2 := (hd1.symm.step hat2 (fun g e => (hM1.own g e).2)).symm
                   have hc6 := HC w6 hb6)
                | (refine wpList_app_sl rfl _ _ rfl Try.underlying22 hi hz0 hz1 hz2 rfl rfl hM2 rfl hpr2 int_free (by simp [maxLen]; omega) (by simp; omega) hb6.size ?_
                   intro v2 w7 hM3 hg3 hat3
                   have hb7 : Bw w4 w7 := Acc.bw hb6 hg3 (fun g e => (hM2.own g e).1) (Nat.le_refl _)
                   have hA3 := hA2.grownI hg3 hd2.ne
                   have hd3 := hd2.step hat3 (fun g e => (hA2.own g e).2)))
              have hs6 := hs0.after (hc4.then hb7)
              have hpr6 := hpr4.after hb7
              have K := Lib.hid (fun w' (hb : Bw w7 w') => And.intro (box3 ((hc4.then hb7).then hb)) (HC w' (hb7.then hb)))
              have Hv := Lib.hid (hNs.resolve_right (by omega))
              clear hNs
              go_region_held3 (fun w' => (w'.cell? ⟨w.heap.size, 0, none⟩ = some a ∧ w'.cell? ⟨w.heap.size, 1, none⟩ = some b ∧ w'.cell? ⟨w.heap.size, 2, none⟩ = some c) ∧ w'.cell? ⟨bu, ou + k, none⟩ = some (.slice P pn pc))
                (exact K.out _ (by (repeat' first | with_reducible exact Below.refl _ _ | with_reducible refine Bw.then ?_ hb17 | with_reducible refine Bw.drew ?_ | with_reducible refine Bw.drewN ?_ _)))
                ((first
                  | (go_at_call 17; (with_reducible refine (val_of Hv.out (nuclei_any (hs6.after (by (repeat' first | with_reducible exact Below.refl _ _ | with_reducible refine Bw.then ?_ hb17 | with_reducible refine Bw.drew ?_ | with_reducible refine Bw.drewN ?_ _))) (hpr6.after (by (repeat' first | with_reducible exact Below.refl _ _ | with_reducible refine Bw.then ?_ hb17 | with_reducible refine Bw.drew ?_ | with_reducible refine Bw.drewN ?_ _))))).mono ?_); rintro e w17 ⟨rfl, hb17⟩)))
              all_goals
                go_wp2_with fail
                exact ⟨⟨k + 1, by omega, by go_num, hb7.then (by (repeat' first | with_reducible exact Below.refl _ _ | with_reducible refine Bw.then ?_ hb17 | with_reducible refine Bw.drew ?_ | with_reducible refine Bw.drewN ?_ _)), by rw [Hfk.out]; exact hA3.after (by (repeat' first | with_reducible exact Below.refl _ _ | with_reducible refine Bw.then ?_ hb17 | with_reducible refine Bw.drew ?_ | with_reducible refine Bw.drewN ?_ _)), by rw [hjn.out]; exact hM3.after (by (repeat' first | with_reducible exact Below.refl _ _ | with_reducible refine Bw.then ?_ hb17 | with_reducible refine Bw.drew ?_ | with_reducible refine Bw.drewN ?_ _)), hd3⟩, by simp [intOf]; omega⟩
          · have hk2 : k = (sylR s x).length := by omega
            subst hk2
            rw [List.take_length, Hfl.out] at hAl
            have hM' : Acc tInt 3 wr w4.heap.size u10 (hyw s x m) := hM
            have hA9 := hAl.hi.rd
            have hM9 := hM'.hi.rd
            have hyl := hM9.len_le
            obtain ⟨A9, c9, rfl, _, _⟩ := hA9.form
            obtain ⟨M9, d9, rfl, _, _⟩ := hM9.form
            have hXX : sameB x x = true := by simp [sameB]
            have hYY : sameB (hyw s x m) (hyw s x m) = true := by simp [sameB]
            have HS := Lib.hid (val_of (congrArg Value.bool hXX) (sameInts_any hA9 (hx0.after (hc4.then hbr))))
            clear hXX hAl hM hM' hA9 hdj
            cases hmk : markB s m
            · have hE : hyE s x m = 1 := by unfold hyE; rw [Hok.out, hmk]; rfl
              have HE := Lib.hid hE
              have Hm := Lib.hid hmk
              clear hE hmk
              go_wp2_with fail
              refine HS.out.mono ?_
              rintro e w5 ⟨rfl, hd5⟩
              have hc5 := hc4.then (hbr.then hd5.bw)
              obtain ⟨p0, p1, p2⟩ := box3 hc5
              have HY := Lib.hid (hyph_any (hs0.after hc5) (hx0.after hc5) hm1 hm2)
              go_wp2_with fail
              refine HY.out.mono ?_
              rintro e w6 hr
              obtain ⟨y, rfl, hb6, _⟩ := hyN hr HE.out (by decide)
              have hc6 := hc5.then hb6
              obtain ⟨q0, q1, q2⟩ := box3 hc6
              have HM := Lib.hid (val_of (congrArg Value.bool Hm.out) (mark_any (m := m) (hs0.after hc6)))
              clear hr p0 p1 p2 HY
              go_wp2_with fail
              refine HM.out.mono ?_
              rintro e w7 ⟨rfl, hb7⟩
              go_wp2_with fail
              refine awake_any.mono ?_
              rintro e w8 ⟨rfl, hb8⟩
              go_wp2_with fail
              go_ret
              exact ⟨rfl, hB.then ((hc6.then hb7).then hb8)⟩
            · by_cases h2 : (hyw s x m).length ≤ 200
              · have hE : hyE s x m = 0 := by unfold hyE; rw [Hok.out, hmk, if_pos (by rfl), if_pos h2]
                have HE := Lib.hid hE
                clear hE hmk
                go_wp2_with fail
                refine HS.out.mono ?_
                rintro e w5 ⟨rfl, hd5⟩
                have hb5 := hbr.then hd5.bw
                have hc5 := hc4.then hb5
                obtain ⟨p0, p1, p2⟩ := box3 hc5
                have HY := Lib.hid (hyph_any (hs0.after hc5) (hx0.after hc5) hm1 hm2)
                go_wp2_with fail
                refine HY.out.mono ?_
                rintro e w6 hr
                obtain ⟨y, rfl, hb6, hy⟩ := hy0 hr HE.out rfl
                have hc6 := hc5.then hb6
                have HM := Lib.hid (val_of (congrArg Value.bool hYY) (sameInts_any hy.rd (hM9.after (hd5.bw.then hb6))))
                obtain ⟨Y, yc, rfl, _, _⟩ := hy.form
                clear hr p0 p1 p2 HY
                go_wp2_with fail
                refine HM.out.mono ?_
                rintro e w7 ⟨rfl, hd7⟩
                go_wp2_with fail
                refine awake_any.mono ?_
                rintro e w8 ⟨rfl, hb8⟩
                go_wp2_with fail
                go_ret
                exact ⟨rfl, hB.then ((hc6.then hd7.bw).then hb8)⟩
              · have hE : hyE s x m = 2 := by unfold hyE; rw [Hok.out, hmk, if_pos (by rfl), if_neg h2]
                have HE := Lib.hid hE
                clear hE hmk
                go_wp2_with fail
                refine HS.out.mono ?_
                rintro e w5 ⟨rfl, hd5⟩
                have hb5 := hbr.then hd5.bw
                have hc5 := hc4.then hb5
                obtain ⟨p0, p1, p2⟩ := box3 hc5
                have HY := Lib.hid (hyph_any (hs0.after hc5) (hx0.after hc5) hm1 hm2)
                go_wp2_with fail
                refine HY.out.mono ?_
                rintro e w6 hr
                obtain ⟨y, rfl, hb6, _⟩ := hyN hr HE.out (by decide)
                have hc6 := hc5.then hb6
                clear hr p0 p1 p2 HY
                go_wp2_with fail
                refine awake_any.mono ?_
                rintro e w8 ⟨rfl, hb8⟩
                go_wp2_with fail
                go_ret
                exact ⟨rfl, hB.then (hc6.then hb8)⟩
  · have Hl := Lib.hid hl
    clear hl
    go_enter Try.func4, Try.ntmps4
    go_wp2_with fail
    refine (val_of (congrArg Value.bool Hl.out) HL.out).mono ?_
    rintro e w1 ⟨rfl, hb1⟩
    go_wp2_with fail
    refine awake_any.mono ?_
    rintro e w2 ⟨rfl, hb2⟩
    go_wp2_with fail
    go_ret
    exact ⟨rfl, (hB.then hb1).then hb2⟩
end Go.Proofs.Ytockfkmemoggiaa

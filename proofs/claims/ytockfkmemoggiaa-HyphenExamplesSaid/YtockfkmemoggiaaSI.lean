/- The contracts of the statements' own readers: the sounds of the examples, and 'divided'. -/
import Derived.Test.YtockfkmemoggiaaSF
import Derived.Test.YtockfkmemoggiaaSG
import Derived.Deep.RegionHeld3
namespace Go.Proofs.Ytockfkmemoggiaa
open Go.RowKit
open Pl

/-- What a literal of one slice reads as. -/
theorem sl_lit1 {α : Type} {T : Ty α} {w : World} {D : Nat → Prop} {g : Nat} {u : Value} {y : List α} {e : TypeId} {fz : Nat × Nat} (hg : w.heap[g]? = some (.cells #[u] e fz)) (hD : D g) (hu : Sl T w D u y) :
    Sl (tSlice T) w D (.slice (some ⟨g, 0, none⟩) 1 1) [y] :=
  ⟨_, _, rfl, Nat.le_refl _, by simp [maxLen], .inr ⟨g, 0, rfl, hD, fun j x hj => ⟨[u], by
    cases j with
    | zero => simp at hj; subst hj; exact ⟨u, rfl, hu⟩
    | succ j => simp at hj, fun i v hi => by
    cases j with
    | zero =>
      cases i with
      | zero => simp at hi; subst hi; exact cell_of_row w g 0 #[u] e fz hg
      | succ i => simp at hi
    | succ j => simp at hj⟩⟩⟩

/-- The sounds of the examples. -/
def snd0 : Snd := ⟨[1, 2], [3, 4, 5, 6], [[3, 4]]⟩

theorem sounds_any {w : World} : Calls Try.prog 19 #[] w fun e w' => (∃ a b c, e = .returned (.agg #[a, b, c]) ∧ SndR w' a b c snd0) ∧ Bw w w' := by
  go_enter Try.func19, Try.ntmps19
  go_wp2
  refine bodyPost_ret (v := .agg #[.slice (some ⟨w.heap.size + 1, 0, none⟩) 2 2, .slice (some ⟨w.heap.size + 1 + 1, 0, none⟩) 4 4, .slice (some ⟨w.heap.size + 1 + 1 + 1 + 1, 0, none⟩) 1 1]) ?_ rfl ⟨⟨_, _, _, rfl, ?_⟩, bw_al (bw_al (bw_al (bw_al (bw_al (Below.refl _ _) _) _) _) _) _⟩
  · simp [results, Try.results19, go_sem]
  · generalize hW : (w.alloc _) = w0
    have s0 : w0.heap.size = w.heap.size + 1 := by rw [← hW]; simp
    clear hW
    generalize w.heap.size = n at *
    refine ⟨?_, ?_, ?_⟩
    · exact Sl.after (sl_lit (w := w0.alloc _) (xs := [1, 2]) (at_new s0.symm) (by simp [s0]) (by simp [maxLen]) (by simp)) (bw_al (bw_al (bw_al (Below.refl _ _) _) _) _)
    · exact Sl.after (sl_lit (w := (w0.alloc _).alloc _) (xs := [3, 4, 5, 6]) (at_new (by simp [s0])) (by simp [s0]) (by simp [maxLen]) (by simp)) (bw_al (bw_al (Below.refl _ _) _) _)
    · exact sl_lit1 (at_new (by simp [s0])) (by simp [s0]) (Sl.after (sl_lit (w := ((w0.alloc _).alloc _).alloc _) (xs := [3, 4]) (at_new (by simp [s0])) (by simp [s0]) (by simp [maxLen]) (by simp)) (bw_al (Below.refl _ _) _))

/-- The syllables with 0 between them, as 'divided' writes them. -/
def dvB (x want : List Int) : Bool := okB snd0 x && sameB (joinTo 0 (sylR snd0 x) (sylR snd0 x).length) want

set_option maxRecDepth 100000 in
set_option maxHeartbeats 2000000 in
theorem divided_any {v u : Value} {x want : List Int} {w : World} (hx : Rd tInt w v x) (hu : Rd tInt w u want) :
    Calls Try.prog 21 #[v, u] w fun e w' => e = .returned (.bool (dvB x want)) ∧ Bw w w' := by
  obtain ⟨i0, hi, hz0, hz1, hz2⟩ := info_parts infoI
  obtain ⟨A, cc, rfl, _, _⟩ := hx.form
  obtain ⟨A2, cc2, rfl, _, _⟩ := hu.form
  cases hok : okB snd0 x
  · have Hok := Lib.hid hok
    clear hok
    go_enter Try.func21, Try.ntmps21
    go_wp2_with fail
    refine sounds_any.mono ?_
    rintro e w1 ⟨⟨a, b, c, rfl, hs⟩, hb1⟩
    have HS := Lib.hid (syllables_any hs (hx.after hb1))
    go_wp2_with fail
    refine HS.out.mono ?_
    rintro e w2 ⟨q, rfl, hb2, hq⟩
    rw [Hok.out] at hq ⊢
    obtain ⟨Q, qc, rfl, _, _⟩ := hq.form
    have hb12 := hb1.then hb2
    have hq0 : (if (false : Bool) = true then sylR snd0 x else []).length = 0 := rfl
    rw [hq0]
    clear HS hq
    go_wp2_with fail
    go_loopw [8] (fun i wr => i = .int .i64 0 ∧ Bw w2 wr) (fun i _ => 0)
    case atStart => exact ⟨rfl, Below.refl _ _⟩
    case round =>
      obtain ⟨rfl, hbr⟩ := hrel
      go_wp2_with fail
      go_ret
      exact ⟨ret_b (by unfold dvB; rw [Hok.out]; rfl), hb12.then hbr⟩
  · have Hok := Lib.hid hok
    obtain ⟨hf1, hf2⟩ := syl_facts hok
    have Hf2 := Lib.hid hf2
    clear hok hf2
    go_enter Try.func21, Try.ntmps21
    go_wp2_with fail
    refine sounds_any.mono ?_
    rintro e w1 ⟨⟨a, b, c, rfl, hs⟩, hb1⟩
    have HS := Lib.hid (syllables_any hs (hx.after hb1))
    go_wp2_with fail
    refine HS.out.mono ?_
    rintro e w4 ⟨q, rfl, hb2, hq⟩
    rw [if_pos Hok.out] at hq ⊢
    obtain ⟨Q, qc, rfl, _, _⟩ := hq.form
    have hb12 := hb1.then hb2
    have hu4 := hq.rd
    have hlen := hq.len_le
    clear HS
    go_wp2_with fail
    go_loopw [7, 8] (fun y i wr => ∃ k : Nat, k ≤ (sylR snd0 x).length ∧ i = .int .i64 k ∧ Bw w4 wr ∧ Acc tInt 3 wr w4.heap.size y (joinTo 0 (sylR snd0 x) k)) (fun _ i _ => (sylR snd0 x).length - (intOf i).toNat)
    case atStart => exact ⟨0, Nat.zero_le _, rfl, Below.refl _ _, Acc.nil _ _⟩
    case round =>
      obtain ⟨k, hk, rfl, hbr, hA⟩ := hrel
      by_cases hlt : k < (sylR snd0 x).length
      · obtain ⟨bu, ou, p, pl, rfl, hp, hpr4, hc⟩ := rd_sl hu4 hbr hlt
        obtain ⟨P, pn, pc, rfl, _, _, hpn⟩ := hpr4.form'
        have hpr := hpr4.after hbr
        have hl1 := Hf2.out k 0 hk
        have hl2 := Hf2.out (k + 1) 0 (by omega)
        by_cases h0 : k = 0
        · subst h0
          have hjn : Hid (joinTo 0 (sylR snd0 x) 1 = joinTo 0 (sylR snd0 x) 0 ++ pl) := by
            show (joinTo 0 (sylR snd0 x) 0 ++ []) ++ (sylR snd0 x).getD 0 [] = _
            rw [getD_of hp.out, List.append_nil]
          have hpl : (joinTo 0 (sylR snd0 x) 0).length + pl.length ≤ 400 := by rw [show (0 : Nat) + 1 = 1 from rfl, hjn.out] at hl2; simp at hl2; omega
          simp only [Nat.add_zero] at hc
          go_wp2_with (at_builtin; refine wpList_app_sl rfl _ _ rfl Try.underlying22 hi hz0 hz1 hz2 rfl rfl hA rfl hpr int_free (by simp [maxLen]; omega) (by omega) hbr.size ?_; intro v1 w5 hA1 hg1 hat1)
          exact ⟨⟨1, by omega, by go_num, Acc.bw hbr hg1 (fun g e => (hA.own g e).1) (Nat.le_refl _), by rw [hjn.out]; exact hA1⟩, by simp [intOf]; omega⟩
        · have hjn : Hid (joinTo 0 (sylR snd0 x) (k + 1) = (joinTo 0 (sylR snd0 x) k ++ [0]) ++ pl) := by
            show joinTo 0 (sylR snd0 x) (k + 1) = _
            rw [joinTo, getD_of hp.out, if_neg h0]
          have hpl : (joinTo 0 (sylR snd0 x) k).length + 1 + pl.length ≤ 400 := by rw [hjn.out] at hl2; simp at hl2; omega
          have hk0 : 0 < k := by omega
          have hA0 := hA.alloc (.cells #[.int .i64 0] 3)
          have hbr0 : Bw w4 (wr.alloc (.cells #[.int .i64 0] 3)) := hbr.alloc hbr.size _
          have hc4 : ∀ w', Bw w4 w' → w'.cell? ⟨bu, ou + k, none⟩ = some (.slice P pn pc) := fun w' hb => by
            have hlt4 : bu < w4.heap.size := by
              obtain ⟨b2, o2, _, _, e3, hD, _⟩ := hu4.cells (List.getElem?_eq_getElem hlt)
              injection e3 with e3
              injection e3 with e3
              injection e3 with e3
              subst e3
              exact hD
            exact (hb.cell (p := ⟨bu, ou + k, none⟩) hlt4).trans ((hbr.cell (p := ⟨bu, ou + k, none⟩) hlt4).symm.trans hc)
          go_wp2_with (at_builtin; first
            | (refine wpList_app_one rfl _ _ rfl Try.underlying22 hi hz0 hz1 hz2 rfl rfl hA0 rfl (at_new rfl) ⟨rfl, by omega, by omega⟩ (by simp [maxLen]; omega) (by omega) hbr0.size ?_
               intro v1 w5 hA1 hg1 hat1
               have hb6 : Bw w4 w5 := Acc.bw hbr0 hg1 (fun g e => (hA0.own g e).1) (Nat.le_refl _)
               have hpr1 : Sl tInt w5 (fun b => b < w5.heap.size) (.slice P pn pc) pl := hpr4.after hb6
               have hc6 := hc4 w5 hb6)
            | (refine wpList_app_sl rfl _ _ rfl Try.underlying22 hi hz0 hz1 hz2 rfl rfl hA1 rfl hpr1 int_free (by simp [maxLen]; omega) (by simp; omega) hb6.size ?_
               intro v2 w6 hA2 hg2 hat2))
          exact ⟨⟨k + 1, by omega, by go_num, Acc.bw hb6 hg2 (fun g e => (hA1.own g e).1) (Nat.le_refl _), by rw [hjn.out]; exact hA2⟩, by simp [intOf]; omega⟩
      · have hk2 : k = (sylR snd0 x).length := by omega
        subst hk2
        have hI := Lib.hid (sameInts_any hA.sl.rd (hu.after (hb12.then hbr)))
        go_wp2_with fail
        refine hI.out.mono ?_
        rintro e w7 ⟨rfl, n, rfl⟩
        go_wp2_with fail
        go_ret
        exact ⟨ret_b (by unfold dvB; rw [Hok.out]; rfl), (hb12.then hbr).drewN _⟩
end Go.Proofs.Ytockfkmemoggiaa

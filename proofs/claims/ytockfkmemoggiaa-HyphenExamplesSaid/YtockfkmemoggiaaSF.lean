/- The contract of the reference's Hyphenate. -/
import Derived.Test.YtockfkmemoggiaaSE
import Derived.Test.YtockfkmemoggiaaR2
namespace Go.Proofs.Ytockfkmemoggiaa
open Go.RowKit
open Pl

set_option maxRecDepth 100000 in
set_option maxHeartbeats 2000000 in
theorem rhyph_any {a b c v : Value} {s : Snd} {x : List Int} {m : Int} {w : World} (h : SndR w a b c s) (hx : Rd tInt w v x) (hm1 : -9223372036854775808 ≤ m) (hm2 : m ≤ 9223372036854775807) :
    Calls Try.prog 12 #[.agg #[a, b, c], v, .int .i64 m] w (HyR w s x m) := by
  obtain ⟨i0, hi, hz0, hz1, hz2⟩ := info_parts infoI
  have hB : Bw w (w.alloc (.cells #[a, b, c] 25)) := (Below.refl _ _).alloc (Nat.le_refl _) _
  have hs1 := h.alloc (.cells #[a, b, c] 25)
  have hx1 := hx.alloc (.cells #[a, b, c] 25)
  have HS := Lib.hid (rsyllables_any hs1 hx1)
  obtain ⟨A, cc, rfl, _, _⟩ := hx.form
  clear h hx
  cases hok : okB s x
  · have Hend : ∀ w2 : World, Bw w w2 → ∀ e, e = .returned (.tuple #[.slice none 0 0, .int .i64 1]) → HyR w s x m e w2 := fun w2 hb e he => by
      have hE : hyE s x m = 1 := by unfold hyE; rw [hok]; rfl
      exact ⟨.slice none 0 0, by rw [hE]; exact he, hb, by rw [if_neg (by rw [hE]; omega)]; exact Sl.nil⟩
    replace Hend := Lib.hid Hend
    have Hok := Lib.hid hok
    clear hok
    go_enter Try.func12, Try.ntmps12
    go_wp2_with fail
    refine HS.out.mono ?_
    rintro e w1 ⟨u, rfl, hb1, hu⟩
    rw [Hok.out] at hu ⊢
    obtain ⟨U, un, uc, rfl, _, _, hun⟩ := hu.form'
    go_wp2_with fail
    go_ret2
    exact Hend.out _ (hB.then hb1) _ rfl
  have Hok := Lib.hid hok
  cases hmk : markB s m
  · have Hend : ∀ w2 : World, Bw w w2 → ∀ e, e = .returned (.tuple #[.slice none 0 0, .int .i64 1]) → HyR w s x m e w2 := fun w2 hb e he => by
      have hE : hyE s x m = 1 := by unfold hyE; rw [hmk]; simp
      exact ⟨.slice none 0 0, by rw [hE]; exact he, hb, by rw [if_neg (by rw [hE]; omega)]; exact Sl.nil⟩
    replace Hend := Lib.hid Hend
    have Hm := Lib.hid hmk
    clear hok hmk
    go_enter Try.func12, Try.ntmps12
    go_wp2_with fail
    refine HS.out.mono ?_
    rintro e w1 ⟨u, rfl, hb1, hu⟩
    rw [Hok.out] at hu ⊢
    obtain ⟨U, un, uc, rfl, _, _, hun⟩ := hu.form'
    obtain ⟨p0, p1, p2⟩ := box3 hb1
    have HM := Lib.hid (mark_any (m := m) (hs1.after hb1))
    go_wp2_with fail
    refine (val_of (congrArg Value.bool Hm.out) HM.out).mono ?_
    rintro e w2 ⟨rfl, hb2⟩
    go_wp2_with fail
    go_ret2
    exact Hend.out _ ((hB.then hb1).then hb2) _ rfl
  have Hm := Lib.hid hmk
  obtain ⟨hf1, hf2⟩ := syl_facts hok
  have Hf2 := Lib.hid hf2
  clear hok hmk hf2
  go_enter Try.func12, Try.ntmps12
  go_wp2_with fail
  refine HS.out.mono ?_
  rintro e w1 ⟨u, rfl, hb1, hu⟩
  rw [if_pos Hok.out] at hu ⊢
  obtain ⟨U, uc, rfl, _, _⟩ := hu.form
  obtain ⟨p0, p1, p2⟩ := box3 hb1
  have HM := Lib.hid (mark_any (m := m) (hs1.after hb1))
  go_wp2_with fail
  refine (val_of (congrArg Value.bool Hm.out) HM.out).mono ?_
  rintro e w4 ⟨rfl, hb2⟩
  have hu4 := hu.rd.after hb2
  have hb5 := (hB.then hb1).then hb2
  have hlen := hu.len_le
  clear HS HM p0 p1 p2
  go_wp2_with fail
  go_loopw [10, 11] (fun y i wr => ∃ k : Nat, k ≤ (sylR s x).length ∧ i = .int .i64 k ∧ Bw w4 wr ∧ Acc tInt 3 wr w4.heap.size y (joinTo m (sylR s x) k)) (fun _ i _ => (sylR s x).length - (intOf i).toNat)
  case atStart => exact ⟨0, Nat.zero_le _, rfl, Below.refl _ _, Acc.nil _ _⟩
  case round =>
    obtain ⟨k, hk, rfl, hbr, hA⟩ := hrel
    by_cases hlt : k < (sylR s x).length
    · obtain ⟨bu, ou, p, pl, rfl, hp, hpr4, hc⟩ := rd_sl hu4 hbr hlt
      obtain ⟨P, pn, pc, rfl, _, _, hpn⟩ := hpr4.form'
      have hpr := hpr4.after hbr
      have hl1 := Hf2.out k m hk
      have hl2 := Hf2.out (k + 1) m (by omega)
      by_cases h0 : k = 0
      · subst h0
        have hjn : Hid (joinTo m (sylR s x) 1 = joinTo m (sylR s x) 0 ++ pl) := by
          show (joinTo m (sylR s x) 0 ++ []) ++ (sylR s x).getD 0 [] = _
          rw [getD_of hp.out, List.append_nil]
        have hpl : (joinTo m (sylR s x) 0).length + pl.length ≤ 400 := by rw [show (0 : Nat) + 1 = 1 from rfl, hjn.out] at hl2; simp at hl2; omega
        simp only [Nat.add_zero] at hc
        go_wp2_with (at_builtin; refine wpList_app_sl rfl _ _ rfl Try.underlying22 hi hz0 hz1 hz2 rfl rfl hA rfl hpr int_free (by simp [maxLen]; omega) (by omega) hbr.size ?_; intro v1 w5 hA1 hg1 hat1)
        exact ⟨⟨1, by omega, by go_num, Acc.bw hbr hg1 (fun g e => (hA.own g e).1) (Nat.le_refl _), by rw [hjn.out]; exact hA1⟩, by simp [intOf]; omega⟩
      · have hjn : Hid (joinTo m (sylR s x) (k + 1) = (joinTo m (sylR s x) k ++ [m]) ++ pl) := by
          show joinTo m (sylR s x) (k + 1) = _
          rw [joinTo, getD_of hp.out, if_neg h0]
        have hpl : (joinTo m (sylR s x) k).length + 1 + pl.length ≤ 400 := by rw [hjn.out] at hl2; simp at hl2; omega
        have hk0 : 0 < k := by omega
        have hA0 := hA.alloc (.cells #[.int .i64 m] 3)
        have hbr0 : Bw w4 (wr.alloc (.cells #[.int .i64 m] 3)) := hbr.alloc hbr.size _
        have hcl : bu < wr.heap.size := World.block_lt_of_cell? wr _ hc
        have hc4 : ∀ w', Bw w4 w' → w'.cell? ⟨bu, ou + k, none⟩ = some (.slice P pn pc) := fun w' hb => by
          obtain ⟨bu', ou', p', pl', e', _, _, hc'⟩ := rd_sl hu4 hb hlt
          injection e' with e'
          injection e' with e1 e2
          subst e1; subst e2
          have hlt4 : bu < w4.heap.size := by
            obtain ⟨b2, o2, _, _, e3, hD, _⟩ := hu4.cells (List.getElem?_eq_getElem hlt)
            injection e3 with e3
            injection e3 with e3
            injection e3 with e3
            subst e3
            exact hD
          exact (hb.cell (p := ⟨bu, ou + k, none⟩) hlt4).trans ((hbr.cell (p := ⟨bu, ou + k, none⟩) hlt4).symm.trans hc)
        go_wp2_with (at_builtin; first
          | (refine wpList_app_one rfl _ _ rfl Try.underlying22 hi hz0 hz1 hz2 rfl rfl hA0 rfl (at_new rfl) ⟨rfl, hm1, hm2⟩ (by simp [maxLen]; omega) (by omega) hbr0.size ?_
             intro v1 w5 hA1 hg1 hat1
             have hb6 : Bw w4 w5 := Acc.bw hbr0 hg1 (fun g e => (hA0.own g e).1) (Nat.le_refl _)
             have hpr1 : Sl tInt w5 (fun b => b < w5.heap.size) (.slice P pn pc) pl := hpr4.after hb6
             have hc6 := hc4 w5 hb6)
          | (refine wpList_app_sl rfl _ _ rfl Try.underlying22 hi hz0 hz1 hz2 rfl rfl hA1 rfl hpr1 int_free (by simp [maxLen]; omega) (by simp; omega) hb6.size ?_
             intro v2 w6 hA2 hg2 hat2))
        exact ⟨⟨k + 1, by omega, by go_num, Acc.bw hb6 hg2 (fun g e => (hA1.own g e).1) (Nat.le_refl _), by rw [hjn.out]; exact hA2⟩, by simp [intOf]; omega⟩
    · have hk2 : k = (sylR s x).length := by omega
      subst hk2
      have hA' : Acc tInt 3 wr w4.heap.size u10 (hyw s x m) := hA
      have hbw : Bw w wr := hb5.then hbr
      have hsl := hA'.hi.weaken fun b (hb : w4.heap.size ≤ b) => show w.heap.size ≤ b from Nat.le_trans hb5.size hb
      obtain ⟨Y, yc, rfl, _, _⟩ := hsl.form
      by_cases h2 : (hyw s x m).length ≤ 200
      · have hE : hyE s x m = 0 := by unfold hyE; rw [Hok.out, Hm.out, if_pos (by rfl), if_pos h2]
        have Hend : ∀ (w' : World) (e : Ending), e = .returned (.tuple #[.slice Y (hyw s x m).length yc, .int .i64 0]) → Bw w w' → Sl tInt w' (Hi w.heap.size) (.slice Y (hyw s x m).length yc) (hyw s x m) → HyR w s x m e w' :=
          fun w' e he hb hS => ⟨.slice Y (hyw s x m).length yc, by rw [hE]; exact he, hb, by rw [if_pos hE]; exact hS⟩
        clear hE
        go_wp2_with fail
        go_ret2
        exact Hend _ _ rfl hbw hsl
      · have hE : hyE s x m = 2 := by unfold hyE; rw [Hok.out, Hm.out, if_pos (by rfl), if_neg h2]
        have Hend : ∀ (w' : World) (e : Ending), e = .returned (.tuple #[.slice none 0 0, .int .i64 2]) → Bw w w' → HyR w s x m e w' :=
          fun w' e he hb => ⟨.slice none 0 0, by rw [hE]; exact he, hb, by rw [if_neg (by rw [hE]; omega)]; exact Sl.nil⟩
        clear hE
        go_wp2_with fail
        go_ret2
        exact Hend _ _ rfl hbw
end Go.Proofs.Ytockfkmemoggiaa

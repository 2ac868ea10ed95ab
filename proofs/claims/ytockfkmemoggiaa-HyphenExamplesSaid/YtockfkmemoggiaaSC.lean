/- The contract of the program's Hyphenate. -/
import Derived.Test.YtockfkmemoggiaaSB
import Derived.Test.YtockfkmemoggiaaPlain2
namespace Go.Proofs.Ytockfkmemoggiaa
open Go.RowKit Go.Maps
open Pl

/-- Element k of a slice of slices, seen from a later world. -/
theorem rd_sl {α : Type} {T : Ty α} {w w' : World} {A : Option Addr} {n c : Nat} {xs : List (List α)} (h : Rd (tSlice T) w (.slice A n c) xs) (hb : Bw w w') {k : Nat} (hk : k < xs.length) :
    ∃ b off u x, A = some ⟨b, off, none⟩ ∧ Hid (xs[k]? = some x) ∧ Rd T w u x ∧ w'.cell? ⟨b, off + k, none⟩ = some u := by
  obtain ⟨b, off, c, cs, h1, hD, ⟨u, rfl, h4⟩, h3⟩ := h.cells (List.getElem?_eq_getElem hk)
  injection h1 with h1
  exact ⟨b, off, u, _, h1, List.getElem?_eq_getElem hk, h4, (World.cell?_of_block (w := w) (hb.block b hD)).trans (by simpa [tSlice] using h3 0 _ rfl)⟩

/-- The hyphenated word. -/
def hyw (s : Snd) (x : List Int) (m : Int) : List Int := joinTo m (sylR s x) (sylR s x).length
/-- Which error Hyphenate gives. -/
def hyE (s : Snd) (x : List Int) (m : Int) : Int := if okB s x && markB s m then (if (hyw s x m).length ≤ 200 then 0 else 2) else 1
/-- What both 'Hyphenate' hand back. -/
def HyR (w : World) (s : Snd) (x : List Int) (m : Int) (e : Ending) (w' : World) : Prop :=
  ∃ u, e = .returned (.tuple #[u, .int .i64 (hyE s x m)]) ∧ Bw w w' ∧ Sl tInt w' (Hi w.heap.size) u (if hyE s x m = 0 then hyw s x m else [])

theorem syl_facts {s : Snd} {x : List Int} (h : okB s x = true) : (sylR s x).length ≤ 200 ∧ ∀ k m, k ≤ (sylR s x).length → (joinTo m (sylR s x) k).length ≤ 400 := by
  obtain ⟨h1, h2⟩ := syl_flat (valid_ap (ok_parts h).1) (word_wd (ok_parts h).2).1 (valid_len (ok_parts h).1)
  have h3 := flat_count _ h2
  have h4 := (word_wd (ok_parts h).2).2
  rw [h1] at h3
  refine ⟨by omega, fun k m hk => ?_⟩
  have h5 := joinTo_len m (sylR s x) k hk
  have h6 := flat_take_le (sylR s x) k
  rw [h1] at h6
  omega

/-- The first half: what stands ahead of 'divide'. -/
theorem hyph_bad {a b c v : Value} {s : Snd} {x : List Int} {m : Int} {w : World} (h : SndR w a b c s) (hx : Rd tInt w v x) (hm1 : -9223372036854775808 ≤ m) (hm2 : m ≤ 9223372036854775807)
    (hbad : (okB s x && markB s m) = false) : Calls Try.prog 11 #[.agg #[a, b, c], v, .int .i64 m] w (HyR w s x m) := by
  have hE : Hid (hyE s x m = 1) := by show hyE s x m = 1; unfold hyE; rw [hbad]; rfl
  have hB : Bw w (w.alloc (.cells #[a, b, c] 25)) := (Below.refl _ _).alloc (Nat.le_refl _) _
  have HR := Lib.hid (read_any (h.alloc (.cells #[a, b, c] 25)))
  obtain ⟨A, cc, rfl, _, _⟩ := hx.form
  have hx1 := hx.after hB
  have hend : ∀ w2 : World, Bw w w2 → ∀ e, e = .returned (.tuple #[.slice none 0 0, .int .i64 1]) → HyR w s x m e w2 := fun w2 hb e he =>
    ⟨.slice none 0 0, by rw [hE.out]; exact he, hb, by rw [if_neg (by rw [hE.out]; omega)]; exact Sl.nil⟩
  have Hend := Lib.hid hend
  clear h hx hend
  cases hv : validB s
  · have Hv := Lib.hid hv
    clear hv hbad
    go_enter Try.func11, Try.ntmps11
    go_wp2_with fail
    refine HR.out.mono ?_
    rintro e w1 ⟨hb, m1, m2, m3, rfl, _⟩
    rw [Hv.out]
    go_wp2_with fail
    go_ret2
    exact Hend.out _ ((hB.then hb).then ((Below.refl _ _).alloc (Nat.le_refl _) _)) _ rfl
  · have Hv := Lib.hid hv
    cases hw : wordB s x
    · have Hw := Lib.hid hw
      clear hv hw hbad
      go_enter Try.func11, Try.ntmps11
      go_wp2_with fail
      refine HR.out.mono ?_
      rintro e w1 ⟨hb, m1, m2, m3, rfl, hm⟩
      obtain ⟨h1, h2, h3⟩ := hm Hv.out
      rw [Hv.out]
      have HW := Lib.hid (pword_any (c := .map m3) (SetsR.mk (h1.alloc (.cells #[.map m1, .map m2, .map m3] 47)) (h2.alloc (.cells #[.map m1, .map m2, .map m3] 47))) ((hx1.after hb).alloc (.cells #[.map m1, .map m2, .map m3] 47)))
      have hb' : Bw w (w1.alloc (.cells #[.map m1, .map m2, .map m3] 47)) := (hB.then hb).then ((Below.refl _ _).alloc (Nat.le_refl _) _)
      clear h1 h2 h3 hm
      go_wp2_with fail
      refine (val_of (congrArg Value.bool Hw.out) HW.out).mono ?_
      rintro e w2 ⟨rfl, hb2⟩
      go_wp2_with fail
      go_ret2
      exact Hend.out _ (hb'.then hb2) _ rfl
    · have Hw := Lib.hid hw
      have hmk : markB s m = false := by
        have : okB s x = true := by unfold okB; rw [hv, hw]; rfl
        rw [this] at hbad; simpa using hbad
      have Hm := Lib.hid hmk
      clear hv hw hbad hmk
      go_enter Try.func11, Try.ntmps11
      go_wp2_with fail
      refine HR.out.mono ?_
      rintro e w1 ⟨hb, m1, m2, m3, rfl, hm⟩
      obtain ⟨h1, h2, h3⟩ := hm Hv.out
      rw [Hv.out]
      have g1 := h1.alloc (.cells #[.map m1, .map m2, .map m3] 47)
      have g2 := h2.alloc (.cells #[.map m1, .map m2, .map m3] 47)
      have HW := Lib.hid (pword_any (c := .map m3) (SetsR.mk g1 g2) ((hx1.after hb).alloc (.cells #[.map m1, .map m2, .map m3] 47)))
      have hb' : Bw w (w1.alloc (.cells #[.map m1, .map m2, .map m3] 47)) := (hB.then hb).then ((Below.refl _ _).alloc (Nat.le_refl _) _)
      have K0 : Hid ((w1.alloc (.cells #[.map m1, .map m2, .map m3] 47)).heap[w1.heap.size]? = some (.cells #[.map m1, .map m2, .map m3] 47 (0, 0))) := at_new rfl
      have KZ : Hid (w1.heap.size < (w1.alloc (.cells #[.map m1, .map m2, .map m3] 47)).heap.size) := by show _ < _; simp
      clear h1 h2 h3 hm
      go_wp2_with fail
      refine (val_of (congrArg Value.bool Hw.out) HW.out).mono ?_
      rintro e w2 ⟨rfl, hb2⟩
      have k1 : w2.heap[w1.heap.size]? = some (.cells #[.map m1, .map m2, .map m3] 47 (0, 0)) := (hb2.block _ KZ.out).trans K0.out
      have q0 : w2.cell? ⟨w1.heap.size, 0, none⟩ = some (.map m1) := cell_of_row w2 _ 0 _ 47 (0, 0) k1
      have q1 : w2.cell? ⟨w1.heap.size, 1, none⟩ = some (.map m2) := cell_of_row w2 _ 1 _ 47 (0, 0) k1
      have q2 : w2.cell? ⟨w1.heap.size, 2, none⟩ = some (.map m3) := cell_of_row w2 _ 2 _ 47 (0, 0) k1
      have HM := Lib.hid (marks_any (c := .map m3) (SetsR.mk (g1.after hb2) (g2.after hb2)) hm1 hm2)
      clear k1 g1 g2
      go_wp2_with fail
      refine (val_of (congrArg Value.bool Hm.out) HM.out).mono ?_
      rintro e w3 ⟨rfl, hb3⟩
      go_wp2_with fail
      go_ret2
      exact Hend.out _ ((hb'.then hb2).then hb3) _ rfl

set_option maxHeartbeats 800000 in
theorem hyph_ok {a b c v : Value} {s : Snd} {x : List Int} {m : Int} {w : World} (h : SndR w a b c s) (hx : Rd tInt w v x) (hm1 : -9223372036854775808 ≤ m) (hm2 : m ≤ 9223372036854775807)
    (hok : okB s x = true) (hmk : markB s m = true) : Calls Try.prog 11 #[.agg #[a, b, c], v, .int .i64 m] w (HyR w s x m) := by
  obtain ⟨i0, hi, hz0, hz1, hz2⟩ := info_parts infoI
  have hB : Bw w (w.alloc (.cells #[a, b, c] 25)) := (Below.refl _ _).alloc (Nat.le_refl _) _
  have HR := Lib.hid (read_any (h.alloc (.cells #[a, b, c] 25)))
  obtain ⟨A, cc, rfl, _, _⟩ := hx.form
  have hx1 := hx.after hB
  have Hv := Lib.hid (ok_parts hok).1
  have Hw := Lib.hid (ok_parts hok).2
  have Hm := Lib.hid hmk
  have Hok := Lib.hid hok
  obtain ⟨hf1, hf2⟩ := syl_facts hok
  have Hf2 := Lib.hid hf2
  clear h hx hok hmk hf2
  go_enter Try.func11, Try.ntmps11
  go_wp2_with fail
  refine HR.out.mono ?_
  rintro e w1 ⟨hb, m1, m2, m3, rfl, hm⟩
  obtain ⟨h1, h2, h3⟩ := hm Hv.out
  rw [Hv.out]
  have g1 := h1.alloc (.cells #[.map m1, .map m2, .map m3] 47)
  have g2 := h2.alloc (.cells #[.map m1, .map m2, .map m3] 47)
  have g3 := h3.alloc (.cells #[.map m1, .map m2, .map m3] 47)
  have g4 := (hx1.after hb).alloc (.cells #[.map m1, .map m2, .map m3] 47)
  have HW := Lib.hid (pword_any (c := .map m3) (SetsR.mk g1 g2) g4)
  have hb' : Bw w (w1.alloc (.cells #[.map m1, .map m2, .map m3] 47)) := (hB.then hb).then ((Below.refl _ _).alloc (Nat.le_refl _) _)
  have K0 : Hid ((w1.alloc (.cells #[.map m1, .map m2, .map m3] 47)).heap[w1.heap.size]? = some (.cells #[.map m1, .map m2, .map m3] 47 (0, 0))) := at_new rfl
  have KZ : Hid (w1.heap.size < (w1.alloc (.cells #[.map m1, .map m2, .map m3] 47)).heap.size) := by show _ < _; simp
  clear h1 h2 h3 hm
  go_wp2_with fail
  refine (val_of (congrArg Value.bool Hw.out) HW.out).mono ?_
  rintro e w2 ⟨rfl, hb2⟩
  have k1 : w2.heap[w1.heap.size]? = some (.cells #[.map m1, .map m2, .map m3] 47 (0, 0)) := (hb2.block _ KZ.out).trans K0.out
  have q0 : w2.cell? ⟨w1.heap.size, 0, none⟩ = some (.map m1) := cell_of_row w2 _ 0 _ 47 (0, 0) k1
  have q1 : w2.cell? ⟨w1.heap.size, 1, none⟩ = some (.map m2) := cell_of_row w2 _ 1 _ 47 (0, 0) k1
  have q2 : w2.cell? ⟨w1.heap.size, 2, none⟩ = some (.map m3) := cell_of_row w2 _ 2 _ 47 (0, 0) k1
  have HM := Lib.hid (marks_any (c := .map m3) (SetsR.mk (g1.after hb2) (g2.after hb2)) hm1 hm2)
  have kz : w1.heap.size < w2.heap.size := Nat.lt_of_lt_of_le KZ.out hb2.size
  go_wp2_with fail
  refine (val_of (congrArg Value.bool Hm.out) HM.out).mono ?_
  rintro e w3 ⟨rfl, hb3⟩
  have k2 : w3.heap[w1.heap.size]? = some (.cells #[.map m1, .map m2, .map m3] 47 (0, 0)) := (hb3.block _ kz).trans k1
  have p0 : w3.cell? ⟨w1.heap.size, 0, none⟩ = some (.map m1) := cell_of_row w3 _ 0 _ 47 (0, 0) k2
  have p1 : w3.cell? ⟨w1.heap.size, 1, none⟩ = some (.map m2) := cell_of_row w3 _ 1 _ 47 (0, 0) k2
  have p2 : w3.cell? ⟨w1.heap.size, 2, none⟩ = some (.map m3) := cell_of_row w3 _ 2 _ 47 (0, 0) k2
  have hb23 := hb2.then hb3
  have HD := Lib.hid (divide_any (SetsR.mk (g1.after hb23) (g2.after hb23)) (g3.after hb23) (g4.after hb23) (word_wd Hw.out).2 (word_sym Hv.out Hw.out) (valid_ap Hv.out) (word_wd Hw.out).1 (valid_len Hv.out))
  clear k1 k2 g1 g2 g3 g4 kz
  go_wp2_with fail
  refine HD.out.mono ?_
  rintro e w4 ⟨u, rfl, hb4, hu⟩
  rw [syl_one Hok.out] at hu
  have hb5 : Bw w w4 := (hb'.then hb23).then hb4
  clear q0 q1 q2 p0 p1 p2 HR HM HD HW K0 KZ
  obtain ⟨U, uc, rfl, _, _⟩ := hu.form
  have hlen := hu.len_le
  go_wp2_with fail
  go_loopw [6, 35] (fun y i wr => ∃ k : Nat, k ≤ (sylR s x).length ∧ i = .int .i64 k ∧ Bw w4 wr ∧ Acc tInt 3 wr w4.heap.size y (joinTo m (sylR s x) k)) (fun _ i _ => (sylR s x).length - (intOf i).toNat)
  case atStart => exact ⟨0, Nat.zero_le _, rfl, Below.refl _ _, Acc.nil _ _⟩
  case round =>
    obtain ⟨k, hk, rfl, hbr, hA⟩ := hrel
    by_cases hlt : k < (sylR s x).length
    · obtain ⟨bu, ou, p, pl, rfl, hp, hpr4, hc⟩ := rd_sl hu.rd hbr hlt
      obtain ⟨P, pn, pc, rfl, _, _, hpn⟩ := hpr4.form'
      have hpr := hpr4.after hbr
      have hl1 := Hf2.out k m hk
      have hl2 := Hf2.out (k + 1) m (by omega)
      by_cases h0 : k = 0
      · subst h0
        have hjn : Hid (joinTo m (sylR s x) 1 = joinTo m (sylR s x) 0 ++ pl) := by
          show (joinTo m (sylR s x) 0 ++ []) ++ (sylR s x).getD 0 [] = _
          rw [getD_of hp.out, List.append_nil]
        have hpl : (joinTo m (sylR s x) 0).length + pl.length ≤ 400 := by rw [show (0 : Nat) + 1 = 1 from rfl, hjn.out] at hl2; simp at hl2; omega
        simp only [Nat.add_zero] at hc
        go_wp2_with (at_builtin; refine wpList_app_sl rfl _ _ rfl Try.underlying22 hi hz0 hz1 hz2 rfl rfl hA rfl hpr int_free (by simp [maxLen]; omega) (by omega) hbr.size ?_; intro v1 w5 hA1 hg1 hat1)
        exact ⟨⟨1, by omega, by go_num, Acc.bw hbr hg1 (fun g e => (hA.own g e).1) (Nat.le_refl _), by rw [hjn.out]; exact hA1⟩, by simp [intOf]; omega⟩
      · have hjn : Hid (joinTo m (sylR s x) (k + 1) = (joinTo m (sylR s x) k ++ [m]) ++ pl) := by
          show joinTo m (sylR s x) (k + 1) = _
          rw [joinTo, getD_of hp.out, if_neg h0]
        have hpl : (joinTo m (sylR s x) k).length + 1 + pl.length ≤ 400 := by rw [hjn.out] at hl2; simp at hl2; omega
        have hk0 : 0 < k := by omega
        have hA0 := hA.alloc (.cells #[.int .i64 m] 3)
        have hpr0 := hpr.alloc (.cells #[.int .i64 m] 3)
        have hbr0 : Bw w4 (wr.alloc (.cells #[.int .i64 m] 3)) := hbr.alloc hbr.size _
        clear hpr0
        go_wp2_with (at_builtin; first
          | (refine wpList_app_one rfl _ _ rfl Try.underlying22 hi hz0 hz1 hz2 rfl rfl hA0 rfl (at_new rfl) ⟨rfl, hm1, hm2⟩ (by simp [maxLen]; omega) (by omega) hbr0.size ?_
             intro v1 w5 hA1 hg1 hat1
             have hb5 : Bw w4 w5 := Acc.bw hbr0 hg1 (fun g e => (hA0.own g e).1) (Nat.le_refl _)
             have hpr1 : Sl tInt w5 (fun b => b < w5.heap.size) (.slice P pn pc) pl := hpr4.after hb5)
          | (refine wpList_app_sl rfl _ _ rfl Try.underlying22 hi hz0 hz1 hz2 rfl rfl hA1 rfl hpr1 int_free (by simp [maxLen]; omega) (by simp; omega) hb5.size ?_
             intro v2 w6 hA2 hg2 hat2))
        exact ⟨⟨k + 1, by omega, by go_num, Acc.bw hb5 hg2 (fun g e => (hA1.own g e).1) (Nat.le_refl _), by rw [hjn.out]; exact hA2⟩, by simp [intOf]; omega⟩
    · have hk2 : k = (sylR s x).length := by omega
      subst hk2
      have hA' : Acc tInt 3 wr w4.heap.size u6 (hyw s x m) := hA
      have hbw : Bw w wr := hb5.then hbr
      have hsl := hA'.hi.weaken fun b (hb : w4.heap.size ≤ b) => show w.heap.size ≤ b from Nat.le_trans hb5.size hb
      obtain ⟨Y, yc, rfl, _, _⟩ := hsl.form
      by_cases h2 : (hyw s x m).length ≤ 200
      · have hE : hyE s x m = 0 := by unfold hyE; rw [Hok.out, Hm.out, if_pos (by rfl), if_pos h2]
        have Hend : ∀ (w' : World) (e : Ending), e = .returned (.tuple #[.slice Y (hyw s x m).length yc, .int .i64 0]) → Bw w w' → Sl tInt w' (Hi w.heap.size) (.slice Y (hyw s x m).length yc) (hyw s x m) → HyR w s x m e w' :=
          fun w' e he hb hS => ⟨.slice Y (hyw s x m).length yc, by rw [hE]; exact he, hb, by rw [if_pos hE]; exact hS⟩
        clear hE
        go_wp2_with fail
        go_ret2
        exact Hend _ _ rfl hbw hsl
      · have hE : hyE s x m = 2 := by unfold hyE; rw [Hok.out, Hm.out, if_pos (by rfl), if_neg h2]
        have Hend : ∀ (w' : World) (e : Ending), e = .returned (.tuple #[.slice none 0 0, .int .i64 2]) → Bw w w' → HyR w s x m e w' :=
          fun w' e he hb => ⟨.slice none 0 0, by rw [hE]; exact he, hb, by rw [if_neg (by rw [hE]; omega)]; exact Sl.nil⟩
        clear hE
        go_wp2_with fail
        go_ret2
        exact Hend _ _ rfl hbw
theorem hyph_any {a b c v : Value} {s : Snd} {x : List Int} {m : Int} {w : World} (h : SndR w a b c s) (hx : Rd tInt w v x) (hm1 : -9223372036854775808 ≤ m) (hm2 : m ≤ 9223372036854775807) :
    Calls Try.prog 11 #[.agg #[a, b, c], v, .int .i64 m] w (HyR w s x m) := by
  cases h1 : okB s x <;> cases h2 : markB s m
  · exact hyph_bad h hx hm1 hm2 (by rw [h1]; rfl)
  · exact hyph_bad h hx hm1 hm2 (by rw [h1]; rfl)
  · exact hyph_bad h hx hm1 hm2 (by rw [h2]; simp)
  · exact hyph_ok h hx hm1 hm2 h1 h2
end Go.Proofs.Ytockfkmemoggiaa

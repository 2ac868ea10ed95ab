/- The contract of the program's Rules: of its rules only the count is told. -/
import Derived.Test.YtockfkmemoggiaaSG
import Derived.Test.YtockfkmemoggiaaSE
import Derived.Deep.RegionHeld3
namespace Go.Proofs.Ytockfkmemoggiaa
open Go.RowKit Go.Maps
open Pl

/-- What Rules hands back: one rule, or none and an error. -/
def RulesR (w : World) (s : Snd) (m : Int) (e : Ending) (w' : World) : Prop :=
  ∃ A n, e = .returned (.tuple #[.slice A n n, .int .i64 (if validB s && markB s m then 0 else 1)]) ∧ Bw w w' ∧ n = if validB s && markB s m then 1 else 0

theorem rules_bad {a b c : Value} {s : Snd} {m : Int} {w : World} (h : SndR w a b c s) (hm1 : -9223372036854775808 ≤ m) (hm2 : m ≤ 9223372036854775807) (hbad : (validB s && markB s m) = false) :
    Calls Try.prog 20 #[.agg #[a, b, c], .int .i64 m] w (RulesR w s m) := by
  have hB : Bw w (w.alloc (.cells #[a, b, c] 25)) := (Below.refl _ _).alloc (Nat.le_refl _) _
  have HR := Lib.hid (read_any (h.alloc (.cells #[a, b, c] 25)))
  have hend : ∀ w2 : World, Bw w w2 → ∀ e, e = .returned (.tuple #[.slice none 0 0, .int .i64 1]) → RulesR w s m e w2 := fun w2 hb e he =>
    ⟨none, 0, by rw [hbad]; exact he, hb, by rw [hbad]; rfl⟩
  have Hend := Lib.hid hend
  clear h hend
  cases hv : validB s
  · have Hv := Lib.hid hv
    clear hv hbad
    go_enter Try.func20, Try.ntmps20
    go_wp2_with fail
    refine HR.out.mono ?_
    rintro e w1 ⟨hb, m1, m2, m3, rfl, _⟩
    rw [Hv.out]
    go_wp2_with fail
    go_ret2
    exact Hend.out _ ((hB.then hb).then ((Below.refl _ _).alloc (Nat.le_refl _) _)) _ rfl
  · have Hv := Lib.hid hv
    have hmk : markB s m = false := by rw [hv] at hbad; simpa using hbad
    have Hm := Lib.hid hmk
    clear hv hbad hmk
    go_enter Try.func20, Try.ntmps20
    go_wp2_with fail
    refine HR.out.mono ?_
    rintro e w1 ⟨hb, m1, m2, m3, rfl, hm⟩
    obtain ⟨h1, h2, h3⟩ := hm Hv.out
    rw [Hv.out]
    have HM := Lib.hid (marks_any (c := .map m3) (SetsR.mk (h1.alloc (.cells #[.map m1, .map m2, .map m3] 47)) (h2.alloc (.cells #[.map m1, .map m2, .map m3] 47))) hm1 hm2)
    have hb' : Bw w (w1.alloc (.cells #[.map m1, .map m2, .map m3] 47)) := (hB.then hb).then ((Below.refl _ _).alloc (Nat.le_refl _) _)
    clear h1 h2 h3 hm
    go_wp2_with fail
    refine (val_of (congrArg Value.bool Hm.out) HM.out).mono ?_
    rintro e w2 ⟨rfl, hb2⟩
    go_wp2_with fail
    go_ret2
    exact Hend.out _ (hb'.then hb2) _ rfl

set_option maxRecDepth 100000 in
set_option maxHeartbeats 16000000 in
theorem rules_ok {a b c : Value} {s : Snd} {m : Int} {w : World} (h : SndR w a b c s) (hm1 : -9223372036854775808 ≤ m) (hm2 : m ≤ 9223372036854775807) (hv : validB s = true) (hmk : markB s m = true) (htwo : 2 ≤ s.ons.length + s.con.length) :
    Calls Try.prog 20 #[.agg #[a, b, c], .int .i64 m] w (RulesR w s m) := by
  obtain ⟨i0, hi, hz0, hz1, hz2⟩ := info_parts infoXi
  have hB : Bw w (w.alloc (.cells #[a, b, c] 25)) := (Below.refl _ _).alloc (Nat.le_refl _) _
  have hs1 := h.alloc (.cells #[a, b, c] 25)
  have HR := Lib.hid (read_any hs1)
  have hend : ∀ w2 : World, Bw w w2 → ∀ A e, e = .returned (.tuple #[.slice A 1 1, .int .i64 0]) → RulesR w s m e w2 := fun w2 hb A e he =>
    ⟨A, 1, by rw [hv, hmk]; exact he, hb, by rw [hv, hmk]; rfl⟩
  have Hend := Lib.hid hend
  have Hv := Lib.hid hv
  have Hm := Lib.hid hmk
  obtain ⟨_, _, _, k1, k2, k3⟩ := valid_parts hv
  have Hlen := Lib.hid (valid_len hv)
  obtain ⟨C, cc, rfl, _, _⟩ := h.ons.form
  clear h hend hv hmk
  go_enter Try.func20, Try.ntmps20
  go_wp2_with fail
  refine HR.out.mono ?_
  rintro e w1 ⟨hb, m1, m2, m3, rfl, hm⟩
  obtain ⟨h1, h2, h3⟩ := hm Hv.out
  rw [Hv.out]
  have HM := Lib.hid (marks_any (c := .map m3) (SetsR.mk (h1.alloc (.cells #[.map m1, .map m2, .map m3] 47)) (h2.alloc (.cells #[.map m1, .map m2, .map m3] 47))) hm1 hm2)
  have hb' : Bw (w.alloc (.cells #[a, b, .slice C s.ons.length cc] 25)) (w1.alloc (.cells #[.map m1, .map m2, .map m3] 47)) := hb.then ((Below.refl _ _).alloc (Nat.le_refl _) _)
  clear h1 h2 h3 hm
  go_wp2_with fail
  refine (val_of (congrArg Value.bool Hm.out) HM.out).mono ?_
  rintro e w2 ⟨rfl, hb2⟩
  have hb3 := hb'.then hb2
  obtain ⟨p0, p1, p2⟩ := box3 hb3
  have hs2 := hs1.after hb3
  clear HM HR
  go_wp2_with fail
  go_loopw [8, 30] (fun o i wr => ∃ k : Nat, k ≤ s.ons.length ∧ i = .int .i64 k ∧ Bw w2 wr ∧ Acc tX 61 wr w2.heap.size o (List.replicate k ())) (fun _ i _ => s.ons.length - (intOf i).toNat)
  case atStart => exact ⟨0, Nat.zero_le _, rfl, Below.refl _ _, Acc.nil _ _⟩
  case round =>
    obtain ⟨k, hk, rfl, hbr, hA⟩ := hrel
    by_cases hlt : k < s.ons.length
    · obtain ⟨bu, ou, p, pl, rfl, hp, hpr4, hc⟩ := rd_sl hs2.ons hbr hlt
      obtain ⟨P, pn, pc, rfl, _, _, hpn⟩ := hpr4.form'
      have hl4 := (Hlen.out pl (List.mem_of_getElem? hp.out)).2
      have HY := Lib.hid (symbols_any (hpr4.after hbr) (by omega))
      go_wp2_with fail
      refine HY.out.mono ?_
      rintro e w3 ⟨u, rfl, hb4, hu⟩
      have HJ := Lib.hid (joined_any (k := 5) hu.sl.rd)
      go_wp2_with fail
      refine HJ.out.mono ?_
      rintro e w4 ⟨⟨v, rfl, k', a', b', W, n', m', A', l', c', rfl⟩, hb5⟩
      have hbx := (hbr.then hb4).then hb5
      have hA1 := (hA.after (hb4.then hb5)).alloc (.cells #[.int .i64 k', .int .i64 a', .int .i64 b', .string W, .int .i64 n', .int .i64 m', .slice A' l' c'] 61)
      have hb6 : Bw w2 (w4.alloc (.cells #[.int .i64 k', .int .i64 a', .int .i64 b', .string W, .int .i64 n', .int .i64 m', .slice A' l' c'] 61)) := hbx.alloc hbx.size _
      clear HY HJ
      go_wp2_with (at_builtin; refine wpList_app_one (T := tX) (y := ()) rfl _ _ rfl Try.underlying59 hi hz0 hz1 hz2 rfl rfl hA1 rfl (at_new rfl) (show XCells _ from .mk) (by simp [maxLen]; omega) (by simp; omega) hb6.size ?_; intro v1 w5 hA3 hg3 hat3)
      refine ⟨⟨k + 1, hlt, by go_num, Acc.bw hb6 hg3 (fun g e => (hA1.own g e).1) (Nat.le_refl _), ?_⟩, by simp [intOf]; omega⟩
      rw [show List.replicate (k + 1) () = List.replicate k () ++ [()] from by simp [List.replicate_succ']]
      exact hA3
    · have hk2 : k = s.ons.length := by omega
      subst hk2
      obtain ⟨q0, q1, q2⟩ := box3 (hb3.then hbr)
      have hs3 := hs2.after hbr
      have HC := Lib.hid (symbols_any hs3.con (by omega))
      go_wp2_with fail
      refine HC.out.mono ?_
      rintro e w4 ⟨u, rfl, hb4, hu⟩
      obtain ⟨Uc, ucn, ucc, rfl, _, _, hucn⟩ := hu.sl.form'
      obtain ⟨r0, r1, r2⟩ := box3 ((hb3.then hbr).then hb4)
      have HC2 := Lib.hid (symbols_any (hs3.after hb4).vow (by omega))
      go_wp2_with fail
      refine HC2.out.mono ?_
      rintro e w5 ⟨u2, rfl, hb5, hu2⟩
      have HJ := Lib.hid (joined_any (k := 6) hu2.sl.rd)
      go_wp2_with fail
      refine HJ.out.mono ?_
      rintro e w6 ⟨⟨v, rfl, k', a', b', W, n', m', A', l', c', rfl⟩, hb6⟩
      have hb456 := (hb4.then hb5).then hb6
      have hu6 := hu.after (hb5.then hb6)
      have hu7 := hu6.sl.rd.alloc (.cells #[.int .i64 k', .int .i64 a', .int .i64 b', .string W, .int .i64 n', .int .i64 m', .slice A' l' c'] 61)
      have HJ2 := Lib.hid (joined_any (k := 6) hu7)
      have z6 : w6.heap.size < (w6.alloc (.cells #[.int .i64 k', .int .i64 a', .int .i64 b', .string W, .int .i64 n', .int .i64 m', .slice A' l' c'] 61)).heap.size := by simp
      have Z6 := Lib.hid z6
      clear HC HC2 HJ hu7 z6
      go_wp2_with fail
      refine HJ2.out.mono ?_
      rintro e w7 ⟨⟨v, rfl, k2', a2', b2', W2, n2', m2', A2', l2', c2', rfl⟩, hb7⟩
      clear HJ2
      have hbr7 : Bw wr w7 := (bw_al hb456 _).then hb7
      have sz7 := hbr7.size
      have sz456 := hb456.size
      have b12 : w7.heap[w6.heap.size]? = some (.cells #[.int .i64 k', .int .i64 a', .int .i64 b', .string W, .int .i64 n', .int .i64 m', .slice A' l' c'] 61 (0, 0)) := (hb7.block _ Z6.out).trans (at_new rfl)
      have z67 : w6.heap.size < w7.heap.size := Nat.lt_of_lt_of_le Z6.out hb7.size
      have b13 : ((w7.alloc (.cells #[.int .i64 k2', .int .i64 a2', .int .i64 b2', .string W2, .int .i64 n2', .int .i64 m2', .slice A2' l2' c2'] 61)).alloc (.cells #[.int .i64 7, .int .i64 0, .int .i64 0, .string ⟨#[]⟩, .int .i64 0, .int .i64 0, .slice (some ⟨w7.heap.size, 0, none⟩) 1 1] 61)).heap[w6.heap.size]? = some (.cells #[.int .i64 k', .int .i64 a', .int .i64 b', .string W, .int .i64 n', .int .i64 m', .slice A' l' c'] 61 (0, 0)) := (Below.heap_alloc _ _ _ (by simp; omega)).trans ((Below.heap_alloc w7 _ _ z67).trans b12)
      have b14 : ((w7.alloc (.cells #[.int .i64 k2', .int .i64 a2', .int .i64 b2', .string W2, .int .i64 n2', .int .i64 m2', .slice A2' l2' c2'] 61)).alloc (.cells #[.int .i64 7, .int .i64 0, .int .i64 0, .string ⟨#[]⟩, .int .i64 0, .int .i64 0, .slice (some ⟨w7.heap.size, 0, none⟩) 1 1] 61)).heap[w7.heap.size + 1]? = some (.cells #[.int .i64 7, .int .i64 0, .int .i64 0, .string ⟨#[]⟩, .int .i64 0, .int .i64 0, .slice (some ⟨w7.heap.size, 0, none⟩) 1 1] 61 (0, 0)) := at_new (by simp)
      have n13 : some w6.heap.size ≠ u8.ownBlock := fun e => by have := (hA.own _ e.symm).2; omega
      have n14 : some (w7.heap.size + 1) ≠ u8.ownBlock := fun e => by have := (hA.own _ e.symm).2; omega
      have K14 : ∀ w' : World, ((w7.alloc (.cells #[.int .i64 k2', .int .i64 a2', .int .i64 b2', .string W2, .int .i64 n2', .int .i64 m2', .slice A2' l2' c2'] 61)).alloc (.cells #[.int .i64 7, .int .i64 0, .int .i64 0, .string ⟨#[]⟩, .int .i64 0, .int .i64 0, .slice (some ⟨w7.heap.size, 0, none⟩) 1 1] 61)).grownBy w' u8.ownBlock → w'.cell? ⟨w6.heap.size, 0, none⟩ = some (.int .i64 k') ∧ w'.cell? ⟨w6.heap.size, 1, none⟩ = some (.int .i64 a') ∧ w'.cell? ⟨w6.heap.size, 2, none⟩ = some (.int .i64 b') ∧ w'.cell? ⟨w6.heap.size, 3, none⟩ = some (.string W) ∧ w'.cell? ⟨w6.heap.size, 4, none⟩ = some (.int .i64 n') ∧ w'.cell? ⟨w6.heap.size, 5, none⟩ = some (.int .i64 m') ∧ w'.cell? ⟨w6.heap.size, 6, none⟩ = some (.slice A' l' c') ∧ w'.cell? ⟨w7.heap.size + 1, 0, none⟩ = some (.int .i64 7) ∧ w'.cell? ⟨w7.heap.size + 1, 1, none⟩ = some (.int .i64 0) ∧ w'.cell? ⟨w7.heap.size + 1, 2, none⟩ = some (.int .i64 0) ∧ w'.cell? ⟨w7.heap.size + 1, 3, none⟩ = some (.string ⟨#[]⟩) ∧ w'.cell? ⟨w7.heap.size + 1, 4, none⟩ = some (.int .i64 0) ∧ w'.cell? ⟨w7.heap.size + 1, 5, none⟩ = some (.int .i64 0) ∧ w'.cell? ⟨w7.heap.size + 1, 6, none⟩ = some (.slice (some ⟨w7.heap.size, 0, none⟩) 1 1) := fun w' hg => by
        have e1 := (hg.block w6.heap.size (by simp; omega) n13).trans b13
        have e2 := (hg.block (w7.heap.size + 1) (by simp) n14).trans b14
        exact ⟨cell_of_row w' _ 0 _ 61 (0, 0) e1, cell_of_row w' _ 1 _ 61 (0, 0) e1, cell_of_row w' _ 2 _ 61 (0, 0) e1, cell_of_row w' _ 3 _ 61 (0, 0) e1, cell_of_row w' _ 4 _ 61 (0, 0) e1, cell_of_row w' _ 5 _ 61 (0, 0) e1, cell_of_row w' _ 6 _ 61 (0, 0) e1,
          cell_of_row w' _ 0 _ 61 (0, 0) e2, cell_of_row w' _ 1 _ 61 (0, 0) e2, cell_of_row w' _ 2 _ 61 (0, 0) e2, cell_of_row w' _ 3 _ 61 (0, 0) e2, cell_of_row w' _ 4 _ 61 (0, 0) e2, cell_of_row w' _ 5 _ 61 (0, 0) e2, cell_of_row w' _ 6 _ 61 (0, 0) e2⟩
      have hbr13 : Bw wr ((w7.alloc (.cells #[.int .i64 k2', .int .i64 a2', .int .i64 b2', .string W2, .int .i64 n2', .int .i64 m2', .slice A2' l2' c2'] 61)).alloc (.cells #[.int .i64 7, .int .i64 0, .int .i64 0, .string ⟨#[]⟩, .int .i64 0, .int .i64 0, .slice (some ⟨w7.heap.size, 0, none⟩) 1 1] 61)) := bw_al (bw_al hbr7 _) _
      have hu13 := hu6.sl.rd
      have hb13 : ∀ w' : World, ((w7.alloc (.cells #[.int .i64 k2', .int .i64 a2', .int .i64 b2', .string W2, .int .i64 n2', .int .i64 m2', .slice A2' l2' c2'] 61)).alloc (.cells #[.int .i64 7, .int .i64 0, .int .i64 0, .string ⟨#[]⟩, .int .i64 0, .int .i64 0, .slice (some ⟨w7.heap.size, 0, none⟩) 1 1] 61)).grownBy w' u8.ownBlock → Bw w w' := fun w' hg =>
        Acc.bw (((hB.then hb3).then hbr).then hbr13) hg (fun g e => (hA.own g e).1) (by have := (hB.then hb3).size; omega)
      have hconl : (s.con.map fun _ => ()).length = s.con.length := by simp
      have hbx : Bw w6 ((w7.alloc (.cells #[.int .i64 k2', .int .i64 a2', .int .i64 b2', .string W2, .int .i64 n2', .int .i64 m2', .slice A2' l2' c2'] 61)).alloc (.cells #[.int .i64 7, .int .i64 0, .int .i64 0, .string ⟨#[]⟩, .int .i64 0, .int .i64 0, .slice (some ⟨w7.heap.size, 0, none⟩) 1 1] 61)) := bw_al (bw_al ((bw_al (Below.refl _ _) _).then hb7) _) _
      go_wp2_with fail
      go_region_held3 (fun w' => w'.cell? ⟨w6.heap.size, 0, none⟩ = some (.int .i64 k') ∧ w'.cell? ⟨w6.heap.size, 1, none⟩ = some (.int .i64 a') ∧ w'.cell? ⟨w6.heap.size, 2, none⟩ = some (.int .i64 b') ∧ w'.cell? ⟨w6.heap.size, 3, none⟩ = some (.string W) ∧ w'.cell? ⟨w6.heap.size, 4, none⟩ = some (.int .i64 n') ∧ w'.cell? ⟨w6.heap.size, 5, none⟩ = some (.int .i64 m') ∧ w'.cell? ⟨w6.heap.size, 6, none⟩ = some (.slice A' l' c') ∧ w'.cell? ⟨w7.heap.size + 1, 0, none⟩ = some (.int .i64 7) ∧ w'.cell? ⟨w7.heap.size + 1, 1, none⟩ = some (.int .i64 0) ∧ w'.cell? ⟨w7.heap.size + 1, 2, none⟩ = some (.int .i64 0) ∧ w'.cell? ⟨w7.heap.size + 1, 3, none⟩ = some (.string ⟨#[]⟩) ∧ w'.cell? ⟨w7.heap.size + 1, 4, none⟩ = some (.int .i64 0) ∧ w'.cell? ⟨w7.heap.size + 1, 5, none⟩ = some (.int .i64 0) ∧ w'.cell? ⟨w7.heap.size + 1, 6, none⟩ = some (.slice (some ⟨w7.heap.size, 0, none⟩) 1 1))
        (exact K14 _ (by (repeat' first | with_reducible exact gr_refl _ _ | with_reducible refine gr_then ?_ hG54 | with_reducible refine gr_bw ?_ hb55 | with_reducible refine gr_bw ?_ hb63 | with_reducible refine gr_drew ?_ | with_reducible refine gr_alloc ?_ _)))
        ((first
          | (go_at_call 33; (with_reducible refine (joined_two (by omega) (by omega)).mono ?_); first
              | (have hxx := hb55; rintro e w63 ⟨⟨v, rfl, k6, a6, b6, W6, n6, m6, A6, l6, c6, rfl⟩, hb63⟩)
              | rintro e w55 ⟨⟨v, rfl, k5, a5, b5, W5, n5, m5, A5, l5, c5, rfl⟩, hb55⟩)
          | (refine step_app_sl (T := tX) rfl _ _ rfl Try.underlying59 hi hz0 hz1 hz2 rfl (by rfl) (hA.after (hbr13.then (by (repeat' first | with_reducible exact Below.refl _ _ | with_reducible refine Bw.then ?_ hb63 | with_reducible refine Bw.then ?_ hb55 | with_reducible refine Bw.drew ?_ | with_reducible refine bw_al ?_ _)))) (by rfl) (hu13.after (hbx.then (by (repeat' first | with_reducible exact Below.refl _ _ | with_reducible refine Bw.then ?_ hb63 | with_reducible refine Bw.then ?_ hb55 | with_reducible refine Bw.drew ?_ | with_reducible refine bw_al ?_ _)))) (fun _ _ h => h) (by simp [maxLen]; omega) (by simp; omega) (Nat.le_trans hbr.size (hbr13.then (by (repeat' first | with_reducible exact Below.refl _ _ | with_reducible refine Bw.then ?_ hb63 | with_reducible refine Bw.then ?_ hb55 | with_reducible refine Bw.drew ?_ | with_reducible refine bw_al ?_ _))).size) ?_
             intro v54 w54 hA54 hg54 hat54
             have hG54 := hg54
             obtain ⟨U, un, uc, rfl, _, _, hun⟩ := hA54.sl.form'
             have hun' : un = s.ons.length + s.con.length := by have := hun.out; simpa using this)))
      all_goals
        go_wp2_with fail
        go_ret2
        exact Hend.out _ (hb13 _ (by (repeat' first | with_reducible exact gr_refl _ _ | with_reducible refine gr_then ?_ hG54 | with_reducible refine gr_bw ?_ hb55 | with_reducible refine gr_bw ?_ hb63 | with_reducible refine gr_drew ?_ | with_reducible refine gr_alloc ?_ _))) _ _ rfl

theorem rules_any {a b c : Value} {s : Snd} {m : Int} {w : World} (h : SndR w a b c s) (hm1 : -9223372036854775808 ≤ m) (hm2 : m ≤ 9223372036854775807) (htwo : 2 ≤ s.ons.length + s.con.length ∨ (validB s && markB s m) = false) :
    Calls Try.prog 20 #[.agg #[a, b, c], .int .i64 m] w (RulesR w s m) := by
  cases hv : validB s
  · exact rules_bad h hm1 hm2 (by rw [hv]; rfl)
  · cases hmk : markB s m
    · exact rules_bad h hm1 hm2 (by rw [hmk]; simp)
    · exact rules_ok h hm1 hm2 hv hmk (htwo.resolve_right (by rw [hv, hmk]; simp))
end Go.Proofs.Ytockfkmemoggiaa

/- The contract of the reference's Syllables. -/
import Derived.Test.YtockfkmemoggiaaSD
import Derived.Test.YtockfkmemoggiaaSC
import Derived.Test.YtockfkmemoggiaaR4
import Derived.Deep.RegionHeld3
namespace Go.Proofs.Ytockfkmemoggiaa
open Go.RowKit
open Pl

/-- A box of three, seen from a later world. -/
theorem box3 {w w' : World} {a b c : Value} {t : TypeId} (hb : Bw (w.alloc (.cells #[a, b, c] t)) w') :
    w'.cell? ⟨w.heap.size, 0, none⟩ = some a ∧ w'.cell? ⟨w.heap.size, 1, none⟩ = some b ∧ w'.cell? ⟨w.heap.size, 2, none⟩ = some c := by
  have h : w'.heap[w.heap.size]? = some (.cells #[a, b, c] t (0, 0)) := (hb.block _ (by show w.heap.size < _; simp)).trans (at_new rfl)
  exact ⟨cell_of_row w' _ 0 _ t (0, 0) h, cell_of_row w' _ 1 _ t (0, 0) h, cell_of_row w' _ 2 _ t (0, 0) h⟩

set_option maxRecDepth 100000 in
set_option maxHeartbeats 2000000 in
theorem rsyll_ok {a b c v : Value} {s : Snd} {x : List Int} {w : World} (h : SndR w a b c s) (hx : Rd tInt w v x) (hok : okB s x = true) (hne : x ≠ []) :
    Calls Try.prog 10 #[.agg #[a, b, c], v] w (SylR w s x) := by
  obtain ⟨i0, hi, hz0, hz1, hz2⟩ := info_parts infoI
  obtain ⟨i2, hi2, hy0, hy1, hy2⟩ := info_parts infoS
  have Hz1 := Lib.hid hz1
  have hB : Bw w (w.alloc (.cells #[a, b, c] 25)) := (Below.refl _ _).alloc (Nat.le_refl _) _
  have hs1 := h.alloc (.cells #[a, b, c] 25)
  have hx1 := hx.alloc (.cells #[a, b, c] 25)
  have h200 : x.length ≤ 200 := (word_wd (ok_parts hok).2).2
  have hxp : 0 < x.length := List.length_pos_iff.2 hne
  obtain ⟨hlt, hinc⟩ := sts_inc (valid_ap (ok_parts hok).1) (word_wd (ok_parts hok).2).1 (valid_len (ok_parts hok).1) x.length x.length (Nat.le_refl _) hxp (Nat.le_refl _)
  have hsl := sts_len s x x.length
  have hsyl : Hid (sylR s x = pieces x (sts s x x.length).1 x.length) := by show sylR s x = _; unfold sylR; rw [if_neg hne]
  have Hv := Lib.hid (ok_parts hok).1
  have Hw := Lib.hid (ok_parts hok).2
  have HV := Lib.hid (valid_any hs1)
  have Hinc := Lib.hid hinc
  have Hlt := Lib.hid hlt
  obtain ⟨A, cc, rfl, hlc, _⟩ := hx.form
  have Hok := Lib.hid hok
  clear h hx hok hinc hne hlt
  go_enter Try.func10, Try.ntmps10
  go_wp2_with fail
  refine (val_of (congrArg Value.bool Hv.out) HV.out).mono ?_
  rintro e w1 ⟨rfl, hb1⟩
  obtain ⟨p0, p1, p2⟩ := box3 hb1
  have HW := Lib.hid (word_any (hs1.after hb1) (hx1.after hb1))
  go_wp2_with fail
  refine (val_of (congrArg Value.bool Hw.out) HW.out).mono ?_
  rintro e w2 ⟨rfl, hb2⟩
  have hb12 := hb1.then hb2
  obtain ⟨q0, q1, q2⟩ := box3 hb12
  have HS := Lib.hid (starts_any (hs1.after hb12) (hx1.after hb12) h200)
  go_wp2_with fail
  refine HS.out.mono ?_
  rintro e w3 ⟨u, rfl, hb3, hA⟩
  have hil : (ints (sts s x x.length).1).length = (sts s x x.length).1.length := by simp [ints]
  have hA1 := hA.alloc (.cells #[.int .i64 (x.length : Int)] 3)
  have hb3' : Bw (w.alloc (.cells #[a, b, c] 25)) (w3.alloc (.cells #[.int .i64 (x.length : Int)] 3)) := (hb12.then hb3).alloc (hb12.then hb3).size _
  have hz9 := (hb3.alloc hb3.size (.cells #[.int .i64 (x.length : Int)] 3)).size
  have hll : Hid ((ints (sts s x x.length).1 ++ [(x.length : Int)]) = ints ((sts s x x.length).1 ++ [x.length])) := by show _ = ints _; simp [ints]
  have hpl := pieces_len x x.length (sts s x x.length).1
  generalize hst : (sts s x x.length).1 = st at *
  go_wp2_with (at_builtin; refine wpList_app_one rfl _ _ rfl Try.underlying22 hi hz0 hz1 hz2 rfl rfl hA1 rfl (at_new rfl) ⟨rfl, by omega, by omega⟩ (by rw [hil]; simp [maxLen]; omega) (by rw [hil]; omega) hz9 ?_; intro v1 w5 hA5 hg5 hat5; rw [hll.out] at hA5; obtain ⟨L, lc, rfl, hl1, hl2⟩ := hA5.form)
  have hb5 : Bw (w.alloc (.cells #[a, b, c] 25)) w5 := Acc.bw hb3' hg5 (fun g e => (hA1.own g e).1) (hb12.size)
  have hL := hA5.sl.rd
  have hx5 := hx1.after hb5
  have hxx := hx5.int hxp
  obtain ⟨bx, ox, _, rfl, _⟩ := hxx
  have hlen2 : (ints (st ++ [x.length])).length = st.length + 1 := by simp [ints]
  rw [hlen2]
  rw [hlen2] at hL
  clear hA5 hg5 hat5 hA1 hb3' hz9 HS HW HV p0 p1 p2 q0 q1 q2
  go_loopw [7, 8] (fun o i wr => ∃ k : Nat, k ≤ st.length ∧ i = .int .i64 k ∧ Bw w5 wr ∧ Acc (tSlice tInt) 22 wr w5.heap.size o ((pieces x st x.length).take k)) (fun _ i _ => st.length - (intOf i).toNat)
  case atStart => exact ⟨0, Nat.zero_le _, rfl, Below.refl _ _, Acc.nil _ _⟩
  case round =>
    obtain ⟨k, hk, rfl, hbr, hA⟩ := hrel
    by_cases hlt : k < st.length
    · obtain ⟨bl, ol, xa, rfl, ha, _, _, ca5⟩ := hL.int (k := k) (by rw [hlen2]; omega)
      obtain ⟨bl2, ol2, xb, e2, hb, _, _, cb5⟩ := hL.int (k := k + 1) (by rw [hlen2]; omega)
      injection e2 with e2
      injection e2 with e3 e4
      subst e3; subst e4
      obtain ⟨na, hna, rfl⟩ : ∃ na, Hid ((st ++ [x.length])[k]? = some na) ∧ xa = (na : Int) := by
        have := ha.out
        rw [ints, List.getElem?_map] at this
        cases hq : (st ++ [x.length])[k]? with
        | none => rw [hq] at this; cases this
        | some na => rw [hq] at this; injection this with this; exact ⟨na, rfl, this.symm⟩
      obtain ⟨nb, hnb, rfl⟩ : ∃ nb, Hid ((st ++ [x.length])[k + 1]? = some nb) ∧ xb = (nb : Int) := by
        have := hb.out
        rw [ints, List.getElem?_map] at this
        cases hq : (st ++ [x.length])[k + 1]? with
        | none => rw [hq] at this; cases this
        | some na => rw [hq] at this; injection this with this; exact ⟨na, rfl, this.symm⟩
      have hbl5 : bl < w5.heap.size := World.block_lt_of_cell? w5 _ ca5
      have ca := (hbr.cell (p := ⟨bl, ol + k, none⟩) hbl5).trans ca5
      have cb := (hbr.cell (p := ⟨bl, ol + (k + 1), none⟩) hbl5).trans cb5
      have hab := Hinc.out k na nb hna.out hnb.out
      have hbn : nb ≤ x.length := by
        rcases List.mem_append.1 (List.mem_of_getElem? hnb.out) with h | h
        · exact Nat.le_of_lt (Hlt.out nb h)
        · simp at h; omega
      have hpc := Lib.hid (pieces_at x x.length st k na nb hna.out hnb.out)
      have hxr := hx5.after hbr
      have hc' := fun W (hW : Bw wr W) => (hxr.after hW).cut (l := na) (n := nb) (m := nb - na) (by omega) hbn rfl
      have eadd : (⟨bx, ox, none⟩ : Addr).add (na * tInt.size) = ⟨bx, ox + na, none⟩ := by
        unfold Addr.add; rw [show na * tInt.size = na by simp [tInt]]
        split
        · rename_i h0; rw [h0]; rfl
        · rfl
      have hne : ¬ cc = na := by omega
      simp only [if_neg hne, Option.map_some, eadd] at hc'
      have hsl : ∀ W : World, (Instr.slice 22 (.slice (some ⟨bx, ox, none⟩) x.length cc) (some (.int .i64 (na : Int))) (some (.int .i64 (nb : Int))) none).run Try.prog W = .ok (.slice (some ⟨bx, ox + na, none⟩) (nb - na) (cc - na)) W := by
        intro W
        have := run_cut_lh Try.underlying22 hi bx ox x.length cc (l := (na : Int)) (h := (nb : Int)) (l' := na) (h' := nb) rfl rfl (by omega) (by omega) (by omega) W
        rwa [Hz1.out, Nat.mul_one] at this
      have t1 : (k : Int) + 1 < (st.length : Int) + 1 := by omega
      have t2 : (0 : Int) ≤ (k : Int) + 1 := by omega
      have t3 : ((k : Int) + 1).toNat = k + 1 := by omega
      have t4 : (0 : Int) ≤ (k : Int) := by omega
      have t5 : (k : Int) < (st.length : Int) + 1 := by omega
      have hwr : IntKind.i64.wrap ((k : Int) + 1) = (k : Int) + 1 := IntWalk.i64_in _ (by omega)
      have hE : Acc tInt 3 ((wr.alloc (.cells #[] 3)).drew) wr.heap.size (.slice (some ⟨wr.heap.size, 0, none⟩) 0 0) [] := (Acc.made (cap := 0) (Nat.le_refl _) (at_new rfl) (Nat.zero_le _) rfl).dn 1
      have hbE : Bw wr ((wr.alloc (.cells #[] 3)).drew) := ((Below.refl _ _).alloc (Nat.le_refl _) _).drew
      have hbl : bl < wr.heap.size := World.block_lt_of_cell? wr _ ca
      have hlp : (cut x na nb).length = nb - na := cut_len x na nb hbn
      clear eadd
      go_wp2_with fail
      go_region_held3 (fun w' => w'.cell? ⟨bl, ol + k, none⟩ = some (.int .i64 na) ∧ w'.cell? ⟨bl, ol + (k + 1), none⟩ = some (.int .i64 nb))
        (first | exact ⟨ca, cb⟩ | go_keep | exact ⟨ca6, cb6⟩ | exact ⟨ca8, cb8⟩)
        ((first
          | (refine step_app_sl rfl _ _ rfl Try.underlying22 hi hz0 hz1 hz2 rfl (by rfl) hE (by rfl) (hc' _ hbE) int_free (by simp [maxLen]; omega) (by simp; omega) (by show wr.heap.size ≤ (wr.alloc _).heap.size; simp) ?_
             intro v6 w6 hA6 hg6 hat6
             have hb6 : Bw wr w6 := Acc.bw hbE hg6 (fun g e => (hE.own g e).1) (Nat.le_refl _)
             have ca6 : w6.cell? ⟨bl, ol + k, none⟩ = some (.int .i64 na) := (hb6.cell (p := ⟨bl, ol + k, none⟩) hbl).trans ca
             have cb6 : w6.cell? ⟨bl, ol + (k + 1), none⟩ = some (.int .i64 nb) := (hb6.cell (p := ⟨bl, ol + (k + 1), none⟩) hbl).trans cb
             rw [List.nil_append] at hA6
             have hs6 := hA6.sl
             obtain ⟨B, un, nB, rfl, _, _, hun⟩ := hs6.form'
             have hu7 : Sl tInt (w6.alloc (.cells #[.slice B un nB] 22)) (fun b => w5.heap.size ≤ b ∧ some b ≠ u7.ownBlock) (.slice B un nB) (cut x na nb) :=
               hs6.keep fun b hb' => ⟨⟨Nat.le_trans hbr.size hb'.1, fun e => by have := (hA.own b e.symm).2; have := hb'.1; omega⟩, Below.heap_alloc w6 _ b hb'.2⟩)
          | (refine step_app_one rfl _ _ rfl Try.underlying23 hi2 hy0 hy1 hy2 rfl (by rfl) ((hA.after hb6).alloc _) (by rfl) (at_new rfl) ⟨_, rfl, hu7⟩ (by simp [maxLen]; omega) (by simp; omega) (by have := hb6.size; have := hbr.size; simp; omega) ?_
             intro v8 w8 hA8 hg8 hat8
             have hb8 : Bw w5 w8 := Acc.bw ((hbr.then hb6).alloc (hbr.then hb6).size _) hg8 (fun g e => (hA.own g e).1) (Nat.le_refl _)
             have ca8 : w8.cell? ⟨bl, ol + k, none⟩ = some (.int .i64 na) := (hb8.cell (p := ⟨bl, ol + k, none⟩) hbl5).trans ca5
             have cb8 : w8.cell? ⟨bl, ol + (k + 1), none⟩ = some (.int .i64 nb) := (hb8.cell (p := ⟨bl, ol + (k + 1), none⟩) hbl5).trans cb5)))
      go_wp2_with fail
      refine ⟨⟨k + 1, hlt, by go_num, hb8, ?_⟩, by simp [intOf]; omega⟩
      rw [List.take_add_one, hpc.out]
      exact hA8
    · have hk2 : k = st.length := by omega
      subst hk2
      have hb5' := (hB.then hb5).then hbr
      have hA' : Sl (tSlice tInt) wr (Hi w.heap.size) u7 (pieces x st x.length) := by
        have e : (pieces x st x.length).take st.length = pieces x st x.length := List.take_of_length_le (by omega)
        rw [e] at hA
        exact hA.hi.weaken fun b (hb : w5.heap.size ≤ b) => show w.heap.size ≤ b from Nat.le_trans (hB.then hb5).size hb
      have Hend : ∀ (w' : World) (e : Ending), e = .returned (.tuple #[u7, .int .i64 0]) → Bw w w' → Sl (tSlice tInt) w' (Hi w.heap.size) u7 (pieces x st x.length) → SylR w s x e w' :=
        fun w' e he hb hS => ⟨_, by rw [if_pos Hok.out]; exact he, hb, by rw [if_pos Hok.out, hsyl.out]; exact hS⟩
      go_wp2_with fail
      go_ret2
      exact Hend _ _ rfl hb5' hA'

theorem rsyllables_any {a b c v : Value} {s : Snd} {x : List Int} {w : World} (h : SndR w a b c s) (hx : Rd tInt w v x) :
    Calls Try.prog 10 #[.agg #[a, b, c], v] w (SylR w s x) := by
  cases hok : okB s x
  · have hB : Bw w (w.alloc (.cells #[a, b, c] 25)) := (Below.refl _ _).alloc (Nat.le_refl _) _
    have hs1 := h.alloc (.cells #[a, b, c] 25)
    have hx1 := hx.alloc (.cells #[a, b, c] 25)
    have HV := Lib.hid (valid_any hs1)
    have hend : ∀ w2 : World, Bw w w2 → ∀ e, e = .returned (.tuple #[.slice none 0 0, .int .i64 1]) → SylR w s x e w2 := fun w2 hb e he =>
      ⟨.slice none 0 0, by rw [hok]; exact he, hb, by rw [hok]; exact Sl.nil⟩
    have Hend := Lib.hid hend
    obtain ⟨A, cc, rfl, _, _⟩ := hx.form
    clear h hx hend
    cases hv : validB s
    · have Hv := Lib.hid hv
      clear hv hok
      go_enter Try.func10, Try.ntmps10
      go_wp2_with fail
      refine (val_of (congrArg Value.bool Hv.out) HV.out).mono ?_
      rintro e w1 ⟨rfl, hb1⟩
      go_wp2_with fail
      go_ret2
      exact Hend.out _ (hB.then hb1) _ rfl
    · have Hv := Lib.hid hv
      have hw : wordB s x = false := by unfold okB at hok; rw [hv] at hok; simpa using hok
      have Hw := Lib.hid hw
      clear hv hok hw
      go_enter Try.func10, Try.ntmps10
      go_wp2_with fail
      refine (val_of (congrArg Value.bool Hv.out) HV.out).mono ?_
      rintro e w1 ⟨rfl, hb1⟩
      obtain ⟨p0, p1, p2⟩ := box3 hb1
      have HW := Lib.hid (word_any (hs1.after hb1) (hx1.after hb1))
      go_wp2_with fail
      refine (val_of (congrArg Value.bool Hw.out) HW.out).mono ?_
      rintro e w2 ⟨rfl, hb2⟩
      go_wp2_with fail
      go_ret2
      exact Hend.out _ ((hB.then hb1).then hb2) _ rfl
  · by_cases hne : x = []
    · subst hne
      have hB : Bw w (w.alloc (.cells #[a, b, c] 25)) := (Below.refl _ _).alloc (Nat.le_refl _) _
      have hs1 := h.alloc (.cells #[a, b, c] 25)
      have hx1 := hx.alloc (.cells #[a, b, c] 25)
      have HV := Lib.hid (valid_any hs1)
      have Hv := Lib.hid (ok_parts hok).1
      have Hw := Lib.hid (ok_parts hok).2
      obtain ⟨A, cc, rfl, _, _⟩ := hx.form
      have Hend : ∀ w2 : World, Bw w w2 → ∀ e, e = .returned (.tuple #[.slice none 0 0, .int .i64 0]) → SylR w s [] e w2 := fun w2 hb e he =>
        ⟨.slice none 0 0, by rw [hok]; exact he, hb, by rw [hok]; exact Sl.nil⟩
      replace Hend := Lib.hid Hend
      clear h hx hok
      go_enter Try.func10, Try.ntmps10
      go_wp2_with fail
      refine (val_of (congrArg Value.bool Hv.out) HV.out).mono ?_
      rintro e w1 ⟨rfl, hb1⟩
      obtain ⟨p0, p1, p2⟩ := box3 hb1
      have HW := Lib.hid (word_any (hs1.after hb1) (hx1.after hb1))
      go_wp2_with fail
      refine (val_of (congrArg Value.bool Hw.out) HW.out).mono ?_
      rintro e w2 ⟨rfl, hb2⟩
      go_wp2_with fail
      go_ret2
      exact Hend.out _ ((hB.then hb1).then hb2) _ rfl
    · exact rsyll_ok h hx hok hne
end Go.Proofs.Ytockfkmemoggiaa

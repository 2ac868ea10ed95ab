/- The walk of the statement SymbolsNames. -/
import Derived.Test.YtfdmpbihepkjnaaDoorSB
import Derived.Test.YtfdmpbihepkjnaaDoorSD
namespace Go.Proofs.YtfdmpbihepkjnaaDoor
open Go.RowKit Go.Maps
open Pl

theorem vT_mg {a b : List ByteArray} (ha : vT a = true) (hb : vT b = true) (h : a.length + b.length ≤ 500) : vT (mgTo a b b.length).1 = true := by
  obtain ⟨_, a2, a3⟩ := vT_parts ha
  obtain ⟨_, b2, _⟩ := vT_parts hb
  have h1 := mg_le a b b.length
  unfold vT validB
  rw [mg_all a2 b2 b.length (Nat.le_refl _), decide_eq_true (mg_nodup b a3 b.length), decide_eq_true (by omega)]
  rfl
theorem mrg_ok {a b : List ByteArray} (ha : vT a = true) (hb : vT b = true) (h : a.length + b.length ≤ 500) : mrg vT a b = ((mgTo a b b.length).1, (mgTo a b b.length).2, 0) := by
  have h1 := mg_le a b b.length
  unfold mrg
  rw [ha, hb, if_pos (by rfl), if_neg (by omega)]
theorem nam_at {a : List ByteArray} (h : vT a = true) {k : Nat} {y : ByteArray} (hy : a[k]? = some y) : nam a ((k : Int) + 1) = some y := by
  have hk := (List.getElem?_eq_some_iff.1 hy).1
  unfold nam
  rw [if_pos ⟨h, by omega, by omega⟩, show ((k : Int) + 1 - 1).toNat = k by omega, hy]
theorem fnd_at {a : List ByteArray} (h : vT a = true) {k : Nat} {y : ByteArray} (hy : a[k]? = some y) : fnd a y = some k := by
  unfold fnd
  rw [if_pos h, posN_nodup (vT_parts h).2.2 hy]

set_option maxRecDepth 100000 in
set_option maxHeartbeats 8000000 in
theorem names_walk {v u : Value} {a b : List ByteArray} {w : World} (hT : Tb w) (ha : Rd tStr w v a) (hb : Rd tStr w u b) :
    Calls Tryd.prog 8 #[v, u] w fun e w' => e = .returned (.bool true) ∧ Bw w w' := by
  have HV := Lib.hid (valid_any hT ha)
  have HV2 := Lib.hid (fun (w' : World) (k : Bw w w') => valid_any (hT.after k) (hb.after k))
  have ha0 := Lib.hid ha
  have hb0 := Lib.hid hb
  have HM := Lib.hid (fun (w' : World) (k : Bw w w') => merge_any (hT.after k) (ha.after k) (hb.after k))
  have HNm := Lib.hid (fun (s : Int) (w' : World) (k : Bw w w') => name_any (s := s) (hT.after k) (ha.after k))
  have HF := Lib.hid (fun (x : ByteArray) (hx : x.size ≤ maxLen) (w' : World) (k : Bw w w') => find_any (x := x) (hT.after k) (ha.after k) hx)
  obtain ⟨A, ca, rfl, _, _⟩ := ha.form
  obtain ⟨B, cb, rfl, _, _⟩ := hb.form
  clear ha hb
  by_cases h6 : 200 < a.length
  · go_enter Tryd.func8, Tryd.ntmps8
    go_wp2_with fail
    refine (awake_any hT).mono ?_
    rintro e w2 ⟨rfl, hb2⟩
    go_wp2_with fail
    go_ret
    exact ⟨rfl, hb2⟩
  by_cases h7 : 200 < b.length
  · go_enter Tryd.func8, Tryd.ntmps8
    go_wp2_with fail
    refine (awake_any hT).mono ?_
    rintro e w2 ⟨rfl, hb2⟩
    go_wp2_with fail
    go_ret
    exact ⟨rfl, hb2⟩
  cases q : vT a
  · rw [q] at HV
    clear q
    go_enter Tryd.func8, Tryd.ntmps8
    go_wp2_with (go_at_call 17; (with_reducible refine HV.out.mono ?_); rintro e w1 ⟨rfl, hb1⟩)
    refine (awake_any (hT.after hb1)).mono ?_
    rintro e w2 ⟨rfl, hb2⟩
    go_wp2_with fail
    go_ret
    exact ⟨rfl, hb1.then hb2⟩
  cases q2 : vT b
  · rw [q] at HV
    rw [q2] at HV2
    clear q q2
    go_enter Tryd.func8, Tryd.ntmps8
    go_wp2_with (first
      | (go_at_call 17; (with_reducible refine HV.out.mono ?_); rintro e w1 ⟨rfl, hb1⟩)
      | (go_at_call 17; (with_reducible refine (HV2.out _ hb1).mono ?_); rintro e w2 ⟨rfl, hb2⟩))
    refine (awake_any (hT.after (hb1.then hb2))).mono ?_
    rintro e w3 ⟨rfl, hb3⟩
    go_wp2_with fail
    go_ret
    exact ⟨rfl, (hb1.then hb2).then hb3⟩
  rw [q] at HV
  rw [q2] at HV2
  have Hva := Lib.hid q
  have hvn := vT_mg q q2 (by omega)
  have hmr := mrg_ok q q2 (by omega)
  rw [hmr] at HM
  have Hvn := Lib.hid hvn
  have Hpre := Lib.hid (mg_pre a b b.length)
  have Hfi := Lib.hid (mg_find a b b.length (Nat.le_refl _))
  have Hto := mg_to a b b.length
  have Hma := Lib.hid (vT_max q)
  have Hmb := Lib.hid (vT_max q2)
  clear q q2 hvn hmr
  go_enter Tryd.func8, Tryd.ntmps8
  go_wp2_with (first
    | (go_at_call 17; (with_reducible refine HV.out.mono ?_); rintro e w1 ⟨rfl, hb1⟩)
    | (go_at_call 17; (with_reducible refine (HV2.out _ hb1).mono ?_); rintro e w2 ⟨rfl, hb2⟩))
  have hb12 := hb1.then hb2
  clear HV HV2
  go_loopw [5] (fun i wr => ∃ k : Nat, k ≤ a.length ∧ i = .int .i64 k ∧ Bw w wr) (fun i _ => a.length - (intOf i).toNat)
  case atStart => exact ⟨0, Nat.zero_le _, rfl, hb12⟩
  case round =>
    obtain ⟨k, hk, rfl, hbr⟩ := hrel
    by_cases hlt : k < a.length
    · obtain ⟨bb, off, y, rfl, hy, hy1, hc0⟩ := ha0.out.str hlt
      have hbl := World.block_lt_of_cell? w _ hc0
      have HC := Lib.hid (fun (w' : World) (q : Bw w w') => (World.cell?_of_block (w := w) (q.block _ hbl)).trans hc0)
      have H1 := Lib.hid (HNm.out ((k : Int) + 1) _ hbr)
      rw [nam_at Hva.out hy.out] at H1
      have H2 := Lib.hid (fun (w' : World) (q : Bw w w') => HF.out y (Hma.out y (List.mem_of_getElem? hy.out)) w' q)
      rw [fnd_at Hva.out hy.out] at H2
      have e1 := str_eq y
      go_wp2_with fail
      refine H1.out.mono ?_
      intro e w3 hr
      obtain ⟨rfl, hb3⟩ : e = .returned (.tuple #[.string y, .bool true]) ∧ Bw wr w3 := hr
      have hb03 := hbr.then hb3
      have hc3 := HC.out _ hb03
      go_wp2_with fail
      refine (H2.out _ hb03).mono ?_
      intro e w4 hr
      obtain ⟨rfl, hb4⟩ : e = .returned (.tuple #[.int .i64 ((k : Int) + 1), .bool true]) ∧ Bw w3 w4 := hr
      have hb04 := hb03.then hb4
      have hc4 := HC.out _ hb04
      go_wp2_with fail
      exact ⟨⟨k + 1, hlt, by go_num, hb04⟩, by simp [intOf]; omega⟩
    · go_wp2_with fail
      refine (HM.out _ hbr).mono ?_
      rintro e w3 ⟨u1, u2, rfl, hb3, hs1, hs2⟩
      have hb03 := hbr.then hb3
      have hn3 := hs1.rd
      have ht3 := hs2.rd
      simp only at hn3 ht3
      obtain ⟨r, hr⟩ := Hpre.out
      have hla : a.length ≤ (mgTo a b b.length).1.length := by rw [hr]; simp
      have Hr := Lib.hid hr
      generalize hN : (mgTo a b b.length).1 = N at *
      generalize hTo : (mgTo a b b.length).2 = To at *
      have HVn := Lib.hid (fun (w' : World) (q : Bw w3 w') => valid_any (hT.after (hb03.then q)) (hn3.after q))
      rw [Hvn.out] at HVn
      have HFn := Lib.hid (fun (x : ByteArray) (hx : x.size ≤ maxLen) (w' : World) (q : Bw w3 w') => find_any (x := x) (hT.after (hb03.then q)) (hn3.after q) hx)
      obtain ⟨U1, c1, rfl, _, _⟩ := hn3.form
      obtain ⟨U2, c2, rfl, _, _⟩ := ht3.form
      have hdla : decide (N.length < a.length) = false := decide_eq_false (by omega)
      clear HM HNm HF hr hN hTo hs1 hs2
      go_wp2_with (go_at_call 17; (with_reducible refine (HVn.out _ (Below.refl _ _)).mono ?_); rintro e w4 ⟨rfl, hb4⟩)
      have hn4 := hn3.after hb4
      have ha4 := ha0.out.after (hb03.then hb4)
      rename World => W4
      go_loopw [13] (fun i wr => ∃ k : Nat, k ≤ a.length ∧ i = .int .i64 k ∧ Dr W4 wr) (fun i _ => a.length - (intOf i).toNat)
      case atStart => exact ⟨0, Nat.zero_le _, rfl, Dr.refl _⟩
      case round =>
        obtain ⟨k, hk, rfl, n0, rfl⟩ := hrel
        by_cases hlt : k < a.length
        · obtain ⟨bb, off, y, rfl, hy, hy1, hc⟩ := ha4.str hlt
          obtain ⟨bb', off', y', rfl, hy', hy1', hc'⟩ := hn4.str (k := k) (by omega)
          have hyy : y' = y := by
            have h1 := hy'.out
            rw [Hr.out, List.getElem?_append_left hlt, hy.out] at h1
            injection h1 with h1
            exact h1.symm
          subst hyy
          have e1 := str_eq y'
          have hkN : k < N.length := by omega
          go_wp2
          go_quiet (fail)
          go_wp2
          exact ⟨⟨k + 1, hlt, by go_num, (Dr.refl _).drewN _⟩, by simp [intOf]; omega⟩
        · have hW5 : Bw W4 (W4.drewN n0) := (Dr.n W4 n0).bw
          have hbW := (hb4.then hW5)
          have hb4' := Lib.hid (hb0.out.after (hb03.then hbW))
          have ht4 := Lib.hid (ht3.after hbW)
          go_wp2_with fail
          go_loopw [14] (fun i wr => ∃ k : Nat, k ≤ b.length ∧ i = .int .i64 k ∧ Bw (W4.drewN n0) wr) (fun i _ => b.length - (intOf i).toNat)
          case atStart => exact ⟨0, Nat.zero_le _, rfl, Below.refl _ _⟩
          case round =>
            obtain ⟨k, hk, rfl, hbr5⟩ := hrel
            by_cases hlt : k < b.length
            · obtain ⟨bb, off, y, rfl, hy, hy1, hc0⟩ := (hb4'.out.after hbr5).str hlt
              obtain ⟨i, hi1, hi2⟩ := Hfi.out k hlt
              rw [getD_of hy.out] at hi1
              have hfn : fnd N y = some i := by unfold fnd; rw [if_pos Hvn.out]; exact hi1
              obtain ⟨bt, offt, z, rfl, hz, hz1, hz2, hct0⟩ := (ht4.out.after hbr5).int (k := k) (by omega)
              have hzi : z = (i : Int) + 1 := by rw [← hi2, getD_of hz.out]
              subst hzi
              have hblt := World.block_lt_of_cell? _ _ hct0
              have H2 := Lib.hid (HFn.out y (Hmb.out y (List.mem_of_getElem? hy.out)) _ (hbW.then hbr5))
              rw [hfn] at H2
              clear hfn hi1 hi2
              go_wp2_with fail
              refine H2.out.mono ?_
              intro e w6 hr
              obtain ⟨rfl, hb6⟩ : e = .returned (.tuple #[.int .i64 ((i : Int) + 1), .bool true]) ∧ Bw wr w6 := hr
              have hct := (World.cell?_of_block (w := wr) (hb6.block _ hblt)).trans hct0
              go_wp2_with fail
              exact ⟨⟨k + 1, hlt, by go_num, hbr5.then hb6⟩, by simp [intOf]; omega⟩
            · go_wp2_with fail
              refine (awake_any (hT.after ((hb03.then hbW).then hbr5))).mono ?_
              rintro e w7 ⟨rfl, hb7⟩
              go_wp2_with fail
              go_ret
              exact ⟨rfl, ((hb03.then hbW).then hbr5).then hb7⟩
end Go.Proofs.YtfdmpbihepkjnaaDoor

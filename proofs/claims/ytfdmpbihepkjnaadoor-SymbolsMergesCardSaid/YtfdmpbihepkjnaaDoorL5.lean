/- The walk of the statement SymbolsMerges. -/
import Derived.Test.YtfdmpbihepkjnaaDoorSB
import Derived.Test.YtfdmpbihepkjnaaDoorSE
namespace Go.Proofs.YtfdmpbihepkjnaaDoor
open Go.RowKit Go.Maps
open Pl

theorem mrg_self {a : List ByteArray} (h : vT a = true) : mrg vT a a = (a, (List.range a.length).map fun (i : Nat) => (i : Int) + 1, 0) := by
  obtain ⟨h1, _, h3⟩ := vT_parts h
  unfold mrg
  rw [h, mg_self h3 a.length (Nat.le_refl _), if_pos (by rfl), if_neg (by simp only; omega)]

set_option maxRecDepth 100000 in
set_option maxHeartbeats 4000000 in
theorem merges_walk {v u : Value} {a b : List ByteArray} {w : World} (hT : Tb w) (ha : Rd tStr w v a) (hb : Rd tStr w u b) :
    Calls Tryd.prog 7 #[v, u] w fun e w' => e = .returned (.bool true) ∧ Bw w w' := by
  have HL := Lib.hid (large_any ha)
  have HL2 := Lib.hid (large_any hb)
  by_cases h6 : 600 < a.length
  · rw [decide_eq_true h6] at HL
    go_enter Tryd.func7, Tryd.ntmps7
    go_wp2_with (go_at_call 11; first | ((with_reducible refine HL.out.mono ?_); rintro e w1 ⟨rfl, rfl⟩) | ((with_reducible refine HL2.out.mono ?_); rintro e w2 ⟨rfl, rfl⟩))
    refine (awake_any hT).mono ?_
    rintro e w2 ⟨rfl, hb2⟩
    go_wp2_with fail
    go_ret
    exact ⟨rfl, hb2⟩
  · rw [decide_eq_false h6] at HL
    by_cases h7 : 600 < b.length
    · rw [decide_eq_true h7] at HL2
      go_enter Tryd.func7, Tryd.ntmps7
      go_wp2_with (go_at_call 11; first | ((with_reducible refine HL.out.mono ?_); rintro e w1 ⟨rfl, rfl⟩) | ((with_reducible refine HL2.out.mono ?_); rintro e w2 ⟨rfl, rfl⟩))
      refine (awake_any hT).mono ?_
      rintro e w2 ⟨rfl, hb2⟩
      go_wp2_with fail
      go_ret
      exact ⟨rfl, hb2⟩
    · rw [decide_eq_false h7] at HL2
      have H1 := Lib.hid (merge_any hT ha hb)
      have H2 := Lib.hid (fun (w' : World) (k : Bw w w') => rmerge_any (ha.after k) (hb.after k))
      have H5 := Lib.hid (fun (w' : World) (k : Bw w w') => valid_any (hT.after k) (ha.after k))
      have H6 := Lib.hid (fun (w' : World) (k : Bw w w') => merge_any (hT.after k) (ha.after k) (ha.after k))
      have H7 := Lib.hid (fun (w' : World) (k : Bw w w') => ha.after k)
      generalize mrg vT a b = r at *
      obtain ⟨l, m, z⟩ := r
      have hS : same l l = true := by simp [same]
      have hS2 : same m m = true := by simp [same]
      have hSa : same a a = true := by simp [same]
      cases q : vT a
      · rw [q] at H5
        clear q
        go_enter Tryd.func7, Tryd.ntmps7
        go_wp2_with (go_at_call 11; first | ((with_reducible refine HL.out.mono ?_); rintro e w1 ⟨rfl, rfl⟩) | ((with_reducible refine HL2.out.mono ?_); rintro e w2 ⟨rfl, rfl⟩))
        refine H1.out.mono ?_
        rintro e w2 ⟨u1, u2, rfl, hb1, hu1, hu2⟩
        go_wp2_with fail
        refine (H2.out _ hb1).mono ?_
        rintro e w3 ⟨u3, u4, rfl, hb2, hu3, hu4⟩
        have hb12 := hb1.then hb2
        have H3 := Lib.hid (val_of (congrArg Value.bool hS) (sameList_any (hu1.rd.after hb2) hu3.rd))
        go_wp2_with fail
        refine H3.out.mono ?_
        rintro e w4 ⟨rfl, hd⟩
        have hb13 := hb12.then hd.bw
        have H4 := Lib.hid (val_of (congrArg Value.bool hS2) (sameInts_any (hu2.rd.after (hb2.then hd.bw)) (hu4.rd.after hd.bw)))
        go_wp2_with fail
        refine H4.out.mono ?_
        rintro e w5 ⟨rfl, hd2⟩
        have hb14 := hb13.then hd2.bw
        go_wp2_with fail
        refine (H5.out _ hb14).mono ?_
        rintro e w6 ⟨rfl, hb5⟩
        have hb15 := hb14.then hb5
        go_wp2_with fail
        refine (awake_any (hT.after hb15)).mono ?_
        rintro e w7 ⟨rfl, hb6⟩
        go_wp2_with fail
        go_ret
        exact ⟨rfl, hb15.then hb6⟩
      · rw [q] at H5
        rw [mrg_self q] at H6
        clear q
        obtain ⟨A, ca, rfl, _, _⟩ := ha.form
        go_enter Tryd.func7, Tryd.ntmps7
        go_wp2_with (go_at_call 11; first | ((with_reducible refine HL.out.mono ?_); rintro e w1 ⟨rfl, rfl⟩) | ((with_reducible refine HL2.out.mono ?_); rintro e w2 ⟨rfl, rfl⟩))
        refine H1.out.mono ?_
        rintro e w2 ⟨u1, u2, rfl, hb1, hu1, hu2⟩
        go_wp2_with fail
        refine (H2.out _ hb1).mono ?_
        rintro e w3 ⟨u3, u4, rfl, hb2, hu3, hu4⟩
        have hb12 := hb1.then hb2
        have H3 := Lib.hid (val_of (congrArg Value.bool hS) (sameList_any (hu1.rd.after hb2) hu3.rd))
        go_wp2_with fail
        refine H3.out.mono ?_
        rintro e w4 ⟨rfl, hd⟩
        have hb13 := hb12.then hd.bw
        have H4 := Lib.hid (val_of (congrArg Value.bool hS2) (sameInts_any (hu2.rd.after (hb2.then hd.bw)) (hu4.rd.after hd.bw)))
        go_wp2_with fail
        refine H4.out.mono ?_
        rintro e w5 ⟨rfl, hd2⟩
        have hb14 := hb13.then hd2.bw
        go_wp2_with fail
        refine (H5.out _ hb14).mono ?_
        rintro e w6 ⟨rfl, hb5⟩
        have hb15 := hb14.then hb5
        go_wp2_with fail
        refine (H6.out _ hb15).mono ?_
        rintro e w7 ⟨u5, u6, rfl, hb6, hu5, hu6⟩
        have hb16 := hb15.then hb6
        have H8 := Lib.hid (val_of (congrArg Value.bool hSa) (sameList_any hu5.rd (H7.out _ hb16)))
        obtain ⟨U, uc, hv, _, _⟩ := hu6.form
        rw [List.length_map, List.length_range] at hv
        subst hv
        have hu6r := hu6.rd
        go_wp2_with fail
        refine H8.out.mono ?_
        rintro e w8 ⟨rfl, hd3⟩
        have hb17 := hb16.then hd3.bw
        have hu7 := hu6r.after hd3.bw
        clear H1 H2 H3 H4 H5 H6 H8 hu1 hu2 hu3 hu4 hu5 hu6 hu6r
        go_wp2_with fail
        go_loopw [14] (fun i wr => ∃ k : Nat, k ≤ a.length ∧ i = .int .i64 k ∧ Dr w8 wr) (fun i _ => a.length - (intOf i).toNat)
        case atStart => exact ⟨0, Nat.zero_le _, rfl, Dr.refl _⟩
        case round =>
          obtain ⟨k, hk, rfl, n0, rfl⟩ := hrel
          by_cases hlt : k < a.length
          · obtain ⟨bb, off, y, rfl, hy, hy1, hy2, hc⟩ := (hu7.dn n0).int (k := k) (by simpa using hlt)
            have hyk : y = (k : Int) + 1 := by
              have := hy.out
              rw [List.getElem?_map, List.getElem?_range hlt] at this
              injection this with this
              exact this.symm
            subst hyk
            go_wp2_with fail
            exact ⟨⟨k + 1, hlt, by go_num, (Dr.refl _).drewN _⟩, by simp [intOf]; omega⟩
          · go_wp2_with fail
            refine (awake_any (hT.after (hb17.drewN n0))).mono ?_
            rintro e w9 ⟨rfl, hb8⟩
            go_wp2_with fail
            go_ret
            exact ⟨rfl, (hb17.drewN n0).then hb8⟩
end Go.Proofs.YtfdmpbihepkjnaaDoor

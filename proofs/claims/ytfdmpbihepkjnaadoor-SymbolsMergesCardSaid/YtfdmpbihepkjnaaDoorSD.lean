/- The contracts of both 'Merge'. Conditions: what the slices read as; the library's tables. -/
import Derived.Test.YtfdmpbihepkjnaaDoorSC
import Derived.Test.YtfdmpbihepkjnaaDoorPlain6
namespace Go.Proofs.YtfdmpbihepkjnaaDoor
open Go.RowKit Go.Maps
open Pl

/-- The look-up in a map of names with their numbers. -/
theorem look_idx {n : List ByteArray} {w : World} {b : Nat} (hM : Mp Tryd.prog 9 w b (numE (idx n))) {x : ByteArray} (hx : x.size ≤ maxLen) :
    (Instr.lookup 46 (.map (some b)) (.string x) false).run Tryd.prog w = .ok (.int .i64 (fS (posN x n))) w := by
  cases hp : posN x n with
  | none =>
    rw [hM.look_none keyed9 Tryd.underlying46 (keyStr hx) (zero3 w) (numE_none (by rw [idx_fst]; exact hp)) false]
    rfl
  | some k =>
    have hm : ((.string x, .int .i64 ((k : Int) + 1)) : Value × Value) ∈ numE (idx n) := List.mem_map.2 ⟨_, idx_mem hp, rfl⟩
    rw [hM.look_some keyed9 Tryd.underlying46 (keyStr hx) hm false]
    rfl
theorem numE_snoc (n : List ByteArray) (x : ByteArray) : numE (idx n) ++ [(.string x, .int .i64 ((n.length : Int) + 1))] = numE (idx (n ++ [x])) := by
  rw [idx_snoc]; simp [numE]

/-- What both 'Merge' hand back. -/
def MgR (w : World) (r : List ByteArray × List Int × Int) (e : Ending) (w' : World) : Prop :=
  ∃ u1 u2, e = .returned (.tuple #[u1, u2, .int .i64 r.2.2]) ∧ Bw w w' ∧ Sl tStr w' (Hi w.heap.size) u1 r.1 ∧ Sl tInt w' (Hi w.heap.size) u2 r.2.1
theorem mgr_end {w w' : World} {a b : List ByteArray} {l : List ByteArray} {m : List Int} {z : Int} {u1 u2 : Value} {e : Ending} (h1 : mrg vT a b = (l, m, z)) (h3 : e = .returned (.tuple #[u1, u2, .int .i64 z])) (h4 : Bw w w')
    (h5 : Sl tStr w' (Hi w.heap.size) u1 l) (h6 : Sl tInt w' (Hi w.heap.size) u2 m) : MgR w (mrg vT a b) e w' := by
  rw [h1]; exact ⟨u1, u2, h3, h4, h5, h6⟩

/-- Not the block of the map. -/
def Nb (v : Value) (b : Nat) : Prop := v.ownBlock ≠ some b
theorem Nb.step {v v' : Value} {b : Nat} {w : World} (h : Nb v b) (hb : b < w.heap.size) (hat : v'.ownBlock = v.ownBlock ∨ v'.ownBlock = some w.heap.size) : Nb v' b := by
  intro e
  rcases hat with k | k
  · exact h (k ▸ e)
  · rw [k] at e; injection e with e; omega
theorem Nb.or {v : Value} {b : Nat} (h : Nb v b) : v.ownBlock = none ∨ v.ownBlock ≠ some b := .inr h

set_option maxRecDepth 100000 in
set_option maxHeartbeats 4000000 in
theorem merge_any {v u : Value} {a b : List ByteArray} {w : World} (hT : Tb w) (ha : Rd tStr w v a) (hb : Rd tStr w u b) :
    Calls Tryd.prog 25 #[v, u] w (MgR w (mrg vT a b)) := by
  obtain ⟨i0, hi, hz0, hz1, hzb⟩ := info_parts infoStr
  obtain ⟨i1, hj, hq0, hq1, hqb⟩ := info_parts infoI
  have HV := Lib.hid (valid_any hT ha)
  have HV2 := Lib.hid (fun (w' : World) (k : Bw w w') => valid_any (hT.after k) (hb.after k))
  have ha0 := Lib.hid ha
  have hb0 := Lib.hid hb
  obtain ⟨A, ca, rfl, _, _⟩ := ha.form
  obtain ⟨B, cb, rfl, _, _⟩ := hb.form
  have hmb := hb.len_le
  clear ha hb
  cases q : vT a
  · have Hr : Hid (mrg vT a b = ([], [], 1)) := by show _ = _; unfold mrg; rw [q]; rfl
    rw [q] at HV
    clear q
    go_enter Tryd.func25, Tryd.ntmps25
    go_wp2_with (go_at_call 17; (with_reducible refine HV.out.mono ?_); rintro e w1 ⟨rfl, hb1⟩)
    go_ret3
    exact mgr_end Hr.out rfl hb1 Sl.nil Sl.nil
  · rw [q] at HV
    cases q2 : vT b
    · have Hr : Hid (mrg vT a b = ([], [], 1)) := by show _ = _; unfold mrg; rw [q, q2]; rfl
      rw [q2] at HV2
      clear q q2
      go_enter Tryd.func25, Tryd.ntmps25
      go_wp2_with (first
        | (go_at_call 17; (with_reducible refine HV.out.mono ?_); rintro e w1 ⟨rfl, hb1⟩)
        | (go_at_call 17; (with_reducible refine (HV2.out _ hb1).mono ?_); rintro e w2 ⟨rfl, hb2⟩))
      go_ret3
      exact mgr_end Hr.out rfl (hb1.then hb2) Sl.nil Sl.nil
    · have hr : mrg vT a b = if 500 < (mgTo a b b.length).1.length then ([], [], 2) else ((mgTo a b b.length).1, (mgTo a b b.length).2, 0) := by unfold mrg; rw [q, q2]; rfl
      rw [q2] at HV2
      have Hr := Lib.hid hr
      have Hna := Lib.hid (vT_parts q).2.2
      have Hmb := Lib.hid (vT_max q2)
      have h5a := (vT_parts q).1
      have h5b := (vT_parts q2).1
      have HN := Lib.hid (fun (w' : World) (D : Nat → Prop) (k : Sl tStr w' D (.slice A a.length ca) a) => numbers_any k.rd)
      clear q q2 hr
      go_enter Tryd.func25, Tryd.ntmps25
      go_wp2_with (first
        | (go_at_call 17; (with_reducible refine HV.out.mono ?_); rintro e w1 ⟨rfl, hb1⟩)
        | (go_at_call 17; (with_reducible refine (HV2.out _ hb1).mono ?_); rintro e w2 ⟨rfl, hb2⟩
           have hb12 := hb1.then hb2
           have hn0 : Acc tStr 9 w2 w2.heap.size (.slice none 0 0) [] := Acc.nil _ _
           have ha2 := ha0.out.after hb12)
        | (at_builtin; first
          | (refine wpList_app_sl rfl _ _ rfl Tryd.underlying22 hi hz0 hz1 hzb rfl rfl hn0 rfl ha2 str_free (by simp [maxLen]; omega) (by simp; omega) (Nat.le_refl _) ?_
             intro n1 w3 hn1 hg1 hat1
             rw [List.nil_append] at hn1
             have hb3 : Bw w w3 := Acc.bw hb12 hg1 (fun g e => by cases e) hb12.size
             have hb23 : Bw w2 w3 := Acc.bw (Below.refl _ _) hg1 (fun g e => by cases e) (Nat.le_refl _)))
        | (go_at_call 31; (with_reducible refine (HN.out _ _ (ha0.out.after hb3)).mono ?_); rintro e w4 ⟨rfl, hb4, hM⟩))
      rw [nums_nodup Hna.out] at hM
      have hn4 := hn1.after hb4
      have hb24 := hb23.then hb4
      have hb04 := hb3.then hb4
      have hnb : Nb n1 w3.heap.size := fun e => by have := (hn1.own _ e).2; omega
      rename World => W4
      generalize hmb' : w3.heap.size = mb at *
      have hmbs : w2.heap.size ≤ mb := by have := hb23.size; omega
      clear hn1 hg1 hat1 hn0 ha2 hb4 hb3 hmb'
      have hb2' := Lib.hid (hb0.out.after hb12)
      go_loopw [4, 5, 25] (fun n l i wr => ∃ k : Nat, k ≤ b.length ∧ i = .int .i64 k ∧ Bw w2 wr ∧ Acc tStr 9 wr w2.heap.size n (mgTo a b k).1 ∧ Acc tInt 3 wr w2.heap.size l (mgTo a b k).2 ∧ Mp Tryd.prog 9 wr mb (numE (idx (mgTo a b k).1)) ∧ Nb n mb ∧ Nb l mb ∧ Dj n l) (fun _ _ i _ => b.length - (intOf i).toNat)
      case atStart => exact ⟨0, Nat.zero_le _, rfl, hb24, hn4, Acc.nil _ _, hM, hnb, (fun e => by cases e), (fun g _ e => by cases e)⟩
      case round =>
        obtain ⟨k, hk, rfl, hbr, hA, hL, hM, hn1, hn2, hdj⟩ := hrel
        have hmbl := hM.lt
        have hle := mg_le a b k
        have hle2 := mg_to a b k
        have hbs := hbr.size
        by_cases hlt : k < b.length
        · obtain ⟨bb, off, y, rfl, hy, hy1, hc0⟩ := hb2'.out.str hlt
          have hbl := World.block_lt_of_cell? w2 _ hc0
          have hc := (World.cell?_of_block (w := w2) (hbr.block _ hbl)).trans hc0
          have hys : y.size ≤ maxLen := by unfold maxLen; omega
          have hst : mgTo a b (k + 1) = mgStep (mgTo a b k) y := by rw [mgTo, getD_of hy.out]
          generalize mgTo a b k = st at *
          obtain ⟨nn, tt⟩ := st
          simp only at hA hL hM hle hle2 hst
          unfold mgStep at hst
          have hL1 := look_idx hM hys
          cases hp : posN y nn with
          | some i =>
            rw [hp] at hL1 hst
            have hil := (List.getElem?_eq_some_iff.1 (posN_spec hp).1).1
            have hfS : fS (some i) = (i : Int) + 1 := rfl
            rw [hfS] at hL1
            have Hst := Lib.hid hst
            have hL2 := hL.alloc (.cells #[.int .i64 ((i : Int) + 1)] 3)
            have hA2 := hA.alloc (.cells #[.int .i64 ((i : Int) + 1)] 3)
            have hM2 := hM.alloc (.cells #[.int .i64 ((i : Int) + 1)] 3)
            have hb4 := bw_al hbr (.cells #[.int .i64 ((i : Int) + 1)] 3)
            have hz4 := sz_alloc wr (.cells #[.int .i64 ((i : Int) + 1)] 3)
            clear hp hst hfS
            go_wp2_with (at_builtin; first
              | (refine wpList_app_one rfl _ _ rfl Tryd.underlying30 hj hq0 hq1 hqb rfl rfl hL2 rfl (at_new rfl) ⟨rfl, by omega, by omega⟩ (by unfold maxLen; omega) (by omega) hb4.size ?_
                 intro v1 w5 hL3 hg3 hat3
                 have hb5 := Acc.bw hb4 hg3 (fun g e => (hL2.own g e).1) (Nat.le_refl _)
                 have hA3 := hA2.grownF flat_str hg3 hdj.ne
                 have hM3 := hM2.grown hg3 (fun e => hn2 e.symm)
                 have hn3 := hn2.step (w := wr.alloc (.cells #[.int .i64 ((i : Int) + 1)] 3)) (by omega) hat3
                 have hd3 := hdj.step hat3 (fun g e => (hA2.own g e).2)))
            exact ⟨⟨k + 1, hlt, by go_num, hb5, by rw [Hst.out]; exact hA3, by rw [Hst.out]; exact hL3, by rw [Hst.out]; exact hM3, hn1, hn3, hd3⟩, by simp [intOf]; omega⟩
          | none =>
            rw [hp] at hL1 hst
            have hfS : fS none = 0 := rfl
            rw [hfS] at hL1
            have Hst := Lib.hid hst
            have Hnone := Lib.hid (numE_none (l := idx nn) (by rw [idx_fst]; exact hp))
            have hp2 : posN y (nn ++ [y]) = some nn.length := posN_some (by simp) fun i hi => by
              rw [List.getD_eq_getElem?_getD, List.getElem?_append_left hi, ← List.getD_eq_getElem?_getD]
              intro e
              exact posN_mem.1 hp (e ▸ List.mem_of_getElem? (getD_mem hi))
            have Hp2 := Lib.hid hp2
            have hln : (nn ++ [y]).length = nn.length + 1 := by simp
            have hA2 := hA.alloc (.cells #[.string y] 9)
            have hL2 := hL.alloc (.cells #[.string y] 9)
            have hM2 := hM.alloc (.cells #[.string y] 9)
            have hb4 := bw_al hbr (.cells #[.string y] 9)
            have hz4 := sz_alloc wr (.cells #[.string y] 9)
            have Hys := Lib.hid hys
            clear hp hst hfS hp2 hys
            go_wp2_with (first
              | (at_builtin; first
                | (refine wpList_app_one rfl _ _ rfl Tryd.underlying22 hi hz0 hz1 hzb rfl rfl hA2 rfl (at_new rfl) ⟨rfl, Hys.out⟩ (by unfold maxLen; omega) (by omega) hb4.size ?_
                   intro v1 w5 hA3 hg3 hat3
                   have hb5 := Acc.bw hb4 hg3 (fun g e => (hA2.own g e).1) (Nat.le_refl _)
                   have hL3 := hL2.grownF flat_int hg3 hdj.symm.ne
                   have hM3 := hM2.grown hg3 (fun e => hn1 e.symm)
                   have hn3 := hn1.step (w := wr.alloc (.cells #[.string y] 9)) (by omega) hat3
                   have hd3 := (hdj.symm.step hat3 (fun g e => (hL2.own g e).2)).symm
                   have hm5 := hM3.lt
                   obtain ⟨V, vc, hv, _, _⟩ := hA3.form
                   rw [hln] at hv
                   subst hv)
                | (refine wpList_app_one rfl _ _ rfl Tryd.underlying30 hj hq0 hq1 hqb rfl rfl hL5 rfl (at_new rfl) ⟨rfl, by omega, by omega⟩ (by unfold maxLen; omega) (by omega) hb7.size ?_
                   intro v2 w8 hL6 hg6 hat6
                   have hb8 := Acc.bw hb7 hg6 (fun g e => (hL5.own g e).1) (Nat.le_refl _)
                   have hA6 := hA5.grownF flat_str hg6 hd3.ne
                   have hM6 := hM5.grown hg6 (fun e => hn2 e.symm)
                   have hn6 := hn2.step (w := w6.alloc (.cells #[.int .i64 ((nn.length : Int) + 1)] 3)) (by omega) hat6
                   have hd6 := hd3.step hat6 (fun g e => (hA5.own g e).2)))
              | (at_mapUpdate; refine wpList_put_new rfl _ _ _ rfl keyed9 Tryd.underlying46 hM3 rfl rfl rfl (keyStr Hys.out) Hnone.out ?_
                 intro w6 hM4' hg4
                 have hM4 : Mp Tryd.prog 9 w6 mb (numE (idx (nn ++ [y]))) := by rw [← numE_snoc]; first | exact hM4' | exact_mod_cast hM4'
                 have hb6 := bw_grown hb5 hg4 hmbs
                 have hL4 := look_idx hM4 Hys.out
                 rw [Hp2.out, show fS (some nn.length) = (nn.length : Int) + 1 from rfl] at hL4
                 have hA5 := (hA3.grownF flat_str hg4 hn3.or).alloc (.cells #[.int .i64 ((nn.length : Int) + 1)] 3)
                 have hL5 := (hL3.grownF flat_int hg4 hn2.or).alloc (.cells #[.int .i64 ((nn.length : Int) + 1)] 3)
                 have hM5 := hM4.alloc (.cells #[.int .i64 ((nn.length : Int) + 1)] 3)
                 have hb7 := bw_al hb6 (.cells #[.int .i64 ((nn.length : Int) + 1)] 3)
                 have hz6 := sz_alloc w6 (.cells #[.int .i64 ((nn.length : Int) + 1)] 3)
                 have hm6 := hM4.lt))
            exact ⟨⟨k + 1, hlt, by go_num, hb8, by rw [Hst.out]; exact hA6, by rw [Hst.out]; exact hL6, by rw [Hst.out]; exact hM6, hn3, hn6, hd6⟩, by simp [intOf]; omega⟩
        · have hk2 : k = b.length := by omega
          subst hk2
          obtain ⟨N, nc, hv, _, _⟩ := hA.form
          subst hv
          obtain ⟨T2, tc, hv, _, _⟩ := hL.form
          subst hv
          have s1 := hA.hi.weaken fun x (hx : w2.heap.size ≤ x) => show w.heap.size ≤ x from Nat.le_trans hb12.size hx
          have s2 := hL.hi.weaken fun x (hx : w2.heap.size ≤ x) => show w.heap.size ≤ x from Nat.le_trans hb12.size hx
          by_cases h5 : 500 < (mgTo a b b.length).1.length
          · have Hf := Lib.hid (Hr.out.trans (if_pos h5))
            go_wp2_with fail
            go_ret3
            exact mgr_end Hf.out rfl (hb12.then hbr) Sl.nil Sl.nil
          · have Hf := Lib.hid (Hr.out.trans (if_neg h5))
            go_wp2_with fail
            go_ret3
            exact mgr_end Hf.out rfl (hb12.then hbr) s1 s2
end Go.Proofs.YtfdmpbihepkjnaaDoor

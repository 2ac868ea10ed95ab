/- The contracts of 'Valid' (the program's) and of the closure of 'Apply' that asks for rules that are not valid. Conditions: what the arguments read as; the library's tables. -/
import Derived.Test.YthecmbmidoagaaaDoorC6
namespace Go.Proofs.YthecmbmidoagaaaDoor
open Go.RowKit Go.Maps
open Pl

/-- What a literal of one element reads as. -/
theorem sl_one {α : Type} {T : Ty α} {w : World} {D : Nat → Prop} {g : Nat} {cs : List Value} {x : α} {e : TypeId} {fz : Nat × Nat} (hg : w.heap[g]? = some (.cells cs.toArray e fz)) (hD : D g) (hx : T.rep w D cs x) : Sl T w D (.slice (some ⟨g, 0, none⟩) 1 1) [x] :=
  ⟨_, 1, rfl, Nat.le_refl _, by simp [maxLen], .inr ⟨g, 0, rfl, hD, fun j y hj => by
    cases j with
    | succ j => simp at hj
    | zero =>
      simp at hj; subst hj
      refine ⟨cs, hx, fun i u hi => ?_⟩
      rw [show 0 + 0 * T.size + i = i by omega, cell_of_row w g i cs.toArray e fz hg]
      simpa using hi⟩⟩
theorem lit1 {w : World} {x : ByteArray} {e : TypeId} {g : Nat} (hg : w.heap[g]? = some (.cells #[.string x] e)) (hx : x.size ≤ 9223372036854775807) : Rd tStr w (.slice (some ⟨g, 0, none⟩) 1 1) [x] :=
  sl_one (cs := [.string x]) hg (Array.getElem?_eq_some_iff.1 hg).1 ⟨rfl, by simpa [maxLen] using hx⟩

set_option maxRecDepth 100000 in
set_option maxHeartbeats 4000000 in
theorem valid_any {v : Value} {l : List Coh} {w : World} (hT : Tb w) (h : Rd tCoh w v l) :
    Calls Tryd.prog 28 #[v] w fun e w' => e = .returned (.bool (validL nameB l)) ∧ Bw w w' := by
  have hm := h.len_le
  obtain ⟨A, c, rfl, _, _⟩ := h.form
  have Hv : Hid (validL nameB l = (decide (l.length ≤ 200) && l.all (validC nameB))) := rfl
  generalize validL nameB l = R at *
  by_cases h2 : l.length ≤ 200
  · have h2' : ¬ (200 : Int) < l.length := by omega
    have hR : Hid (R = l.all (validC nameB)) := by show _ = _; rw [Hv.out, decide_eq_true h2]; rfl
    clear Hv
    go_enter Tryd.func28, Tryd.ntmps28
    go_wp2_with fail
    go_loopw [12] (fun i wr => ∃ k : Nat, k ≤ l.length ∧ i = .int .i64 k ∧ Bw w wr ∧ Pre k (fun j => ∀ y, l[j]? = some y → validC nameB y = true)) (fun i _ => l.length - (intOf i).toNat)
    case atStart => exact ⟨0, Nat.zero_le _, rfl, Below.refl _ _, Pre.zero⟩
    case round =>
      obtain ⟨k, hk, rfl, hd, hpre⟩ := hrel
      by_cases hlt : k < l.length
      · obtain ⟨b, off, y, u, rfl, hy, hys, hyu, hc0, hc1⟩ := (h.after hd).coh hlt
        obtain ⟨fm, rs⟩ := y
        simp only at *
        have hmr := hyu.len_le
        obtain ⟨A2, cc2, rfl, _, _⟩ := hyu.form
        have hbx := bw_al (bw_refl_al wr (.cells #[.string fm, .slice A2 rs.length cc2] 37)) (.cells #[.string fm] 9)
        have hs := lit1 (w := (wr.alloc (.cells #[.string fm, .slice A2 rs.length cc2] 37)).alloc (.cells #[.string fm] 9)) (g := wr.heap.size + 1) (x := fm) (at_new (by simp)) hys
        have HN := Lib.hid (named_pr_any (hT.after (hd.then hbx)) hs)
        rw [show [fm].all nameB = nameB fm by simp] at HN
        have hv : Hid (validC nameB (fm, rs) = (nameB fm && decide (rs.length ≤ 30) && rs.all fun r => nmT nameB r 1 20)) := rfl
        have hgood : Hid (validC nameB (fm, rs) = true → ∀ z, l[k]? = some z → validC nameB z = true) := fun h => pre_one hy.out h
        have hbad : Hid (validC nameB (fm, rs) = false → false = R) := fun h => (hR.out.trans (all_bad hy.out h)).symm
        have hyu2 := hyu.rd.after hbx
        generalize validC nameB (fm, rs) = V at hv hgood hbad
        clear hs hyu hy
        cases q : nameB fm <;> rw [q] at HN
        · have hF := Lib.hid (hbad.out (by rw [hv.out, q]; rfl))
          clear q hv hgood hbad
          go_wp2_with ((with_reducible refine HN.out.mono ?_); rintro e w2 ⟨rfl, hb⟩)
          go_ret
          exact ⟨ret_b hF.out, (hd.then hbx).then hb⟩
        · by_cases h30 : rs.length ≤ 30
          · have h30' : ¬ (30 : Int) < rs.length := by omega
            have h30'' : decide ((30 : Int) < rs.length) = false := decide_eq_false h30'
            have hV : Hid (V = rs.all fun r => nmT nameB r 1 20) := by show _ = _; rw [hv.out, q, decide_eq_true h30]; rfl
            clear q hv
            go_wp2_with ((with_reducible refine HN.out.mono ?_); rintro e w2 ⟨rfl, hb⟩; have hd1 : w2.cell? ⟨wr.heap.size, 1, none⟩ = some (.slice A2 rs.length cc2) := bw_cell hb (by go_simp))
            have hb2 := (hd.then hbx).then hb
            have hyu3 := hyu2.after hb
            clear hyu2 hb hbx hd1 HN
            go_loopw [30] (fun i wr => ∃ k : Nat, k ≤ rs.length ∧ i = .int .i64 k ∧ Bw w2 wr ∧ Pre k (fun j => ∀ y, rs[j]? = some y → nmT nameB y 1 20 = true)) (fun i _ => rs.length - (intOf i).toNat)
            case atStart => exact ⟨0, Nat.zero_le _, rfl, Below.refl _ _, Pre.zero⟩
            case round =>
              obtain ⟨k2, hk2, rfl, hd2, hpre2⟩ := hrel
              have hbw := hb2.then hd2
              by_cases hlt2 : k2 < rs.length
              · obtain ⟨b2, off2, z, u2, rfl, hz, hzr, hcz⟩ := lookR (hyu3.after hd2) hlt2
                obtain ⟨u', e, hzu⟩ := rep_rdg hzr
                injection e with e; subst e
                obtain ⟨A3, cc3, rfl, _, _⟩ := hzu.form
                have hbz := bw_refl_al wr (.cells #[.slice A3 z.length cc3] 24)
                have HG := Lib.hid (tags_any (hT.after (hbw.then hbz)) (hzu.rd.after hbz))
                clear hzr hzu hyu3
                cases q : nmT nameB z 1 20 <;> rw [q] at HG
                · have hF := Lib.hid (hbad.out (hV.out.trans (all_bad (p := fun r => nmT nameB r 1 20) hz.out q)))
                  clear q
                  go_wp2_with ((with_reducible refine HG.out.mono ?_); rintro e w' ⟨rfl, hb⟩)
                  go_ret
                  exact ⟨ret_b hF.out, (hbw.then hbz).then hb⟩
                · have hq := Lib.hid q
                  clear q
                  go_wp2_with ((with_reducible refine HG.out.mono ?_); rintro e w' ⟨rfl, hb⟩)
                  exact ⟨⟨k2 + 1, hlt2, by go_num, (hd2.then hbz).then hb, hpre2.snoc (pre_one (p := fun r => nmT nameB r 1 20) hz.out hq.out)⟩, by simp [intOf]; omega⟩
              · have hF := Lib.hid (hgood.out (hV.out.trans (all_good (p := fun r => nmT nameB r 1 20) hlt2 hpre2)))
                go_wp2_with fail
                exact ⟨⟨k + 1, hlt, by go_num, hbw, hpre.snoc hF.out⟩, by simp [intOf]; omega⟩
          · have h30' : (30 : Int) < rs.length := by omega
            have h30'' : decide ((30 : Int) < rs.length) = true := decide_eq_true h30'
            have hF := Lib.hid (hbad.out (by rw [hv.out, q, decide_eq_false h30]; rfl))
            clear q hv hgood hbad
            go_wp2_with ((with_reducible refine HN.out.mono ?_); rintro e w2 ⟨rfl, hb⟩; have hd1 : w2.cell? ⟨wr.heap.size, 1, none⟩ = some (.slice A2 rs.length cc2) := bw_cell hb (by go_simp))
            go_ret
            exact ⟨ret_b hF.out, (hd.then hbx).then hb⟩
      · have hg := Lib.hid (all_good hlt hpre)
        go_wp2_with fail
        go_ret
        exact ⟨ret_b (hR.out.trans hg.out).symm, hd⟩
  · have h2' : (200 : Int) < l.length := by omega
    have hR : Hid (false = R) := by show _ = _; rw [Hv.out, decide_eq_false h2]; rfl
    go_enter Tryd.func28, Tryd.ntmps28
    go_wp2_with fail
    go_ret
    exact ⟨ret_b hR.out, Below.refl _ _⟩

theorem a1_any {u1 u2 : Value} {r : Rul} {w : World} (hT : Tb w) (h1 : Rd tStr w u1 r.target) (h2 : Rd tTst w u2 r.tests) :
    Calls Tryd.prog 45 #[.agg #[.int .i64 r.op, u1, u2, .bool r.wild]] w fun e w' => e = .returned (.bool (!validR nameB r)) ∧ Bw w w' := by
  have hb1 := bw_refl_al w (.cells #[.int .i64 r.op, u1, u2, .bool r.wild] 34)
  have HC := Lib.hid (rule_any (hT.after hb1) (h1.after hb1) (h2.after hb1))
  clear h1 h2
  go_enter Tryd.func45, Tryd.ntmps45
  go_wp2_with ((with_reducible refine HC.out.mono ?_); rintro e w' ⟨rfl, hb⟩)
  go_ret
  exact ⟨rfl, hb1.then hb⟩
theorem a1_asks {l : List Rul} {w : World} (hT : Tb w) : Asks tRul vAgg 45 #[] w l (fun x => !validR nameB x) := by
  refine ⟨fun _ _ => by kernel_rfl, ?_⟩
  rintro x cs w2 hx hb hrep
  obtain ⟨u1, u2, rfl, hi, hu1, hu2⟩ := rep_rul hrep
  exact a1_any (hT.after hb) hu1.rd hu2.rd
end Go.Proofs.YthecmbmidoagaaaDoor

/- The contracts of 'Word' and both 'Text'. Conditions: what the slices read as; the library's tables. -/
import Derived.Test.YtfdmpbihepkjnaaDoorS7
import Derived.Test.YtfdmpbihepkjnaaDoorS9
import Derived.Test.YtfdmpbihepkjnaaDoorPlain5
import Derived.Lib.SlBytesRow
import Derived.Lib.BufferRead
namespace Go.Proofs.YtfdmpbihepkjnaaDoor
open Go.RowKit Go.Maps
open Pl

theorem word_any {v u : Value} {t : List ByteArray} {x : List Int} {w : World} (h : Rd tStr w v t) (hx : Rd tInt w u x) :
    Calls Tryd.prog 39 #[v, u] w fun e w' => e = .returned (.bool (wordB t x)) ∧ w' = w := by
  have hm := h.len_le
  obtain ⟨A, c, rfl, _, _⟩ := h.form
  obtain ⟨A2, c2, rfl, _, _⟩ := hx.form
  unfold wordB
  by_cases h2 : 200 < x.length
  · rw [decide_eq_false (by omega)]
    go_enter Tryd.func39, Tryd.ntmps39
    go_wp2_with fail
    go_ret
    exact ⟨rfl, rfl⟩
  · rw [decide_eq_true (by omega), Bool.true_and]
    go_enter Tryd.func39, Tryd.ntmps39
    go_wp2_with fail
    go_loopw [5] (fun i wr => ∃ k : Nat, k ≤ x.length ∧ i = .int .i64 k ∧ wr = w ∧ Pre k (fun j => inT t (x.getD j 0) = true)) (fun i _ => x.length - (intOf i).toNat)
    case atStart => exact ⟨0, Nat.zero_le _, rfl, rfl, Pre.zero⟩
    case round =>
      obtain ⟨k, hk, rfl, rfl, hpre⟩ := hrel
      by_cases hlt : k < x.length
      · obtain ⟨b, off, y, rfl, hy, hy1, hy2, hc⟩ := hx.int hlt
        have hgd := Lib.hid (getD_of (d := (0 : Int)) hy.out)
        by_cases c1 : 1 ≤ y
        · by_cases c2 : y ≤ t.length
          · have Hq : Hid (inT t (x.getD k 0) = true) := by show _ = _; rw [hgd.out]; unfold inT; rw [decide_eq_true c1, decide_eq_true c2]; rfl
            go_wp2_with fail
            exact ⟨⟨k + 1, hlt, by go_num, by first | rfl | trivial, hpre.snoc Hq.out⟩, by simp [intOf]; omega⟩
          · have Hq : Hid (allR x.length (fun k => inT t (x.getD k 0)) = false) := allR_false hlt (by show inT t (x.getD k 0) = false; rw [hgd.out]; unfold inT; rw [decide_eq_false c2]; simp)
            go_wp2_with fail
            go_ret
            exact ⟨ret_b Hq.out.symm, rfl⟩
        · have Hq : Hid (allR x.length (fun k => inT t (x.getD k 0)) = false) := allR_false hlt (by show inT t (x.getD k 0) = false; rw [hgd.out]; unfold inT; rw [decide_eq_false c1]; rfl)
          go_wp2_with fail
          go_ret
          exact ⟨ret_b Hq.out.symm, rfl⟩
      · have Hq : Hid (allR x.length (fun k => inT t (x.getD k 0)) = true) := allR_true fun j hj => hpre j (by omega)
        go_wp2_with fail
        go_ret
        exact ⟨ret_b Hq.out.symm, rfl⟩

/-- What both 'Text' hand back. -/
def TxR (w : World) (r : ByteArray × Int) (e : Ending) (w' : World) : Prop := e = .returned (.tuple #[.string r.1, .int .i64 r.2]) ∧ Bw w w'

theorem cells_snoc (l : List UInt8) (s : ByteArray) : Lib.byteCells l ++ Lib.strCells s = Lib.byteCells (l ++ s.data.toList) := by
  unfold Lib.byteCells Lib.strCells; simp

/-- A row of bytes as a string. -/
theorem conv_own {w : World} {B : Nat} {v : Value} {l : List UInt8} (h : w.ownsRow B 5 1 v l.length (Lib.byteCells l)) : (convert 53 9 v).run Tryd.prog w = .ok (.string ⟨l.toArray⟩) w := by
  rcases h.2 with ⟨rfl, h0⟩ | ⟨g, cap, cur, rfl, _⟩
  · have : l = [] := List.eq_nil_of_length_eq_zero h0
    subst this
    exact Lib.run_convert_nil_bytes w 53 9 5 0 Tryd.underlying53 Tryd.underlying5 Tryd.underlying9
  · have hc : Lib.Bytes w g 0 ⟨l.toArray⟩ := fun i hi => by
      have hi' : i < l.length := by simpa [ByteArray.size] using hi
      have := h.cellAt i (by omega)
      rw [Nat.zero_add, this]
      simp [Lib.byteCells, hi']
      rfl
    have := Lib.run_convert_whole (P := Tryd.prog) w 53 5 9 Tryd.underlying53 Tryd.underlying5 Tryd.underlying9 g 0 ⟨l.toArray⟩ hc cap
    simpa [ByteArray.size] using this

set_option maxRecDepth 100000 in
set_option maxHeartbeats 2000000 in
theorem rtext_any {v u : Value} {t : List ByteArray} {x : List Int} {w : World} (h : Rd tStr w v t) (hx : Rd tInt w u x) :
    Calls Tryd.prog 23 #[v, u] w (TxR w (txt vT t x)) := by
  obtain ⟨i0, hi, hz0, hz1, hzb⟩ := info_parts infoByte
  have HV := Lib.hid (rvalid_any h)
  have HW := Lib.hid (fun (w' : World) (hb : Bw w w') => word_any (h.after hb) (hx.after hb))
  have h0 := Lib.hid h
  have hx0 := Lib.hid hx
  have hm := h.len_le
  obtain ⟨A, c, rfl, _, _⟩ := h.form
  obtain ⟨A2, c2, rfl, _, _⟩ := hx.form
  unfold TxR txt
  clear h hx
  cases q : vT t
  · rw [q] at HV
    rw [if_neg (by simp)]
    clear q
    go_enter Tryd.func23, Tryd.ntmps23
    go_wp2_with (go_at_call 18; (with_reducible refine HV.out.mono ?_); rintro e w1 ⟨rfl, hb1⟩)
    go_ret2
    exact ⟨rfl, hb1⟩
  · rw [q] at HV
    have Hnm := Lib.hid (vT_names q)
    clear q
    cases q2 : wordB t x
    · rw [q2] at HW
      rw [if_neg (by simp)]
      clear q2
      go_enter Tryd.func23, Tryd.ntmps23
      go_wp2_with (first
        | (go_at_call 18; (with_reducible refine HV.out.mono ?_); rintro e w1 ⟨rfl, hb1⟩)
        | (go_at_call 39; (with_reducible refine (HW.out _ hb1).mono ?_); rintro e w2 ⟨rfl, rfl⟩))
      go_ret2
      exact ⟨rfl, hb1⟩
    · rw [q2] at HW
      rw [if_pos (by simp)]
      have hwd := q2
      unfold wordB at hwd
      rw [Bool.and_eq_true, decide_eq_true_eq, allR_iff] at hwd
      have h200 := hwd.1
      have Hin := Lib.hid hwd.2
      have Hcl := Lib.hid (cat_len (t := t) (x := x) (fun y hy => (Hnm.out y hy).2))
      clear q2 hwd
      go_enter Tryd.func23, Tryd.ntmps23
      go_wp2_with (first
        | (go_at_call 18; (with_reducible refine HV.out.mono ?_); rintro e w1 ⟨rfl, hb1⟩)
        | (go_at_call 39; (with_reducible refine (HW.out _ hb1).mono ?_); rintro e w2 ⟨rfl, rfl⟩))
      rename World => W1
      have h1 := Lib.hid (h0.out.after hb1)
      have hx1 := Lib.hid (hx0.out.after hb1)
      go_loopw [6, 7] (fun l i wr => ∃ k : Nat, k ≤ x.length ∧ i = .int .i64 k ∧ Bw W1 wr ∧ wr.ownsRow W1.heap.size 5 1 l (catTo t x k).length (Lib.byteCells (catTo t x k))) (fun _ i _ => x.length - (intOf i).toNat)
      case atStart => exact ⟨0, Nat.zero_le _, rfl, Below.refl _ _, World.ownsRow_nil W1 W1.heap.size 5 1⟩
      case round =>
        obtain ⟨k, hk, rfl, hbr, hown⟩ := hrel
        by_cases hlt : k < x.length
        · obtain ⟨b, off, y, rfl, hy, hy1, hy2, hc⟩ := (hx1.out.after hbr).int hlt
          have hgd := Lib.hid (getD_of (d := (0 : Int)) hy.out)
          have hin := Hin.out k hlt
          rw [hgd.out] at hin
          unfold inT at hin
          simp only [Bool.and_eq_true, decide_eq_true_eq] at hin
          obtain ⟨j, rfl⟩ : ∃ j : Nat, y = (j : Int) + 1 := ⟨(y - 1).toNat, by omega⟩
          obtain ⟨b', off', z, rfl, hz, hz1', hc0⟩ := (h1.out.after hbr).str (k := j) (by omega)
          have hz40 := (Hnm.out z (List.mem_of_getElem? hz.out)).2
          have hst : Hid (catTo t x (k + 1) = catTo t x k ++ z.data.toList) := by
            show _ = _
            rw [catTo, hgd.out, show ((j : Int) + 1 - 1).toNat = j by omega, getD_of hz.out]
          have hcl := Hcl.out k
          have hlenst : (catTo t x (k + 1)).length = (catTo t x k).length + z.size := by rw [hst.out, List.length_append, Array.length_toList]; rfl
          go_wp2_with (at_builtin; first
            | (refine Lib.wpList_append_own_string _ rfl _ _ 53 9 rfl W1.heap.size 5 i0 Tryd.underlying53 Tryd.underlying9 hi hz0 hz1 hzb _ _ _ rfl hown z rfl (by unfold maxLen; omega) (by omega) hbr.size ?_
               intro v1 w3 hown1 hg1 _
               have hb5 := Acc.bw hbr hg1 (fun g e => (hown.lt g e).1) (Nat.le_refl _)))
          rw [cells_snoc, ← hst.out, ← hlenst] at hown1
          exact ⟨⟨k + 1, hlt, by go_num, hb5, hown1⟩, by simp [intOf]; omega⟩
        · have hk2 : k = x.length := by omega
          subst hk2
          have hcv := conv_own hown
          obtain ⟨U, un, uc, rfl⟩ : ∃ U un uc, u6 = .slice U un uc := by
            rcases hown.2 with ⟨e, _⟩ | ⟨g, cap, cur, e, _⟩
            · exact ⟨_, _, _, e⟩
            · exact ⟨_, _, _, e⟩
          go_wp2_with fail
          go_ret2
          exact ⟨rfl, hb1.then hbr⟩

set_option maxRecDepth 100000 in
set_option maxHeartbeats 2000000 in
theorem text_any {v u : Value} {t : List ByteArray} {x : List Int} {w : World} (hT : Tb w) (h : Rd tStr w v t) (hx : Rd tInt w u x) :
    Calls Tryd.prog 22 #[v, u] w (TxR w (txt vT t x)) := by
  have HV := Lib.hid (valid_any hT h)
  have h0 := Lib.hid h
  have hx0 := Lib.hid hx
  have hm := h.len_le
  have hmx := hx.len_le
  obtain ⟨A, c, rfl, _, _⟩ := h.form
  obtain ⟨A2, c2, rfl, _, _⟩ := hx.form
  have hend : ∀ (r : ByteArray × Int) (w' : World) (e : Ending), txt vT t x = r → e = .returned (.tuple #[.string r.1, .int .i64 r.2]) → Bw w w' → TxR w (txt vT t x) e w' := by
    intro r w' e h1 h2 h3
    rw [h1]
    exact ⟨h2, h3⟩
  have Hend := Lib.hid hend
  clear h hx hend
  cases q : vT t
  · rw [q] at HV
    have Hr : Hid (txt vT t x = (⟨#[]⟩, 1)) := by show _ = _; unfold txt; rw [q]; rfl
    clear q
    go_enter Tryd.func22, Tryd.ntmps22
    go_wp2_with (go_at_call 17; (with_reducible refine HV.out.mono ?_); rintro e w1 ⟨rfl, hb1⟩)
    go_ret2
    exact Hend.out _ _ _ Hr.out rfl hb1
  · rw [q] at HV
    by_cases h200 : 200 < x.length
    · have Hr : Hid (txt vT t x = (⟨#[]⟩, 1)) := by show _ = _; unfold txt wordB; rw [decide_eq_false (by omega : ¬ x.length ≤ 200)]; simp
      clear q
      go_enter Tryd.func22, Tryd.ntmps22
      go_wp2_with (go_at_call 17; (with_reducible refine HV.out.mono ?_); rintro e w1 ⟨rfl, hb1⟩)
      go_ret2
      exact Hend.out _ _ _ Hr.out rfl hb1
    · have Hnm := Lib.hid (vT_names q)
      have Hcl := Lib.hid (cat_len (t := t) (x := x) (fun y hy => (Hnm.out y hy).2))
      have Hq := Lib.hid q
      clear q
      go_enter Tryd.func22, Tryd.ntmps22
      go_wp2_with (go_at_call 17; (with_reducible refine HV.out.mono ?_); rintro e w1 ⟨rfl, hb1⟩)
      have hbA := bw_al (Below.refl w1.heap.size w1) (.cells #[.pointer none, .slice none 0 0] 55)
      have hBd : Lib.IsBuilder 55 5 w1.heap.size w1.heap.size (Lib.byteCells []) (w1.alloc (.cells #[.pointer none, .slice none 0 0] 55)) :=
        .inl ⟨Nat.le_refl _, _, at_new rfl, World.ownsRow_nil _ w1.heap.size 5 1, by simp [Value.ownBlock]⟩
      go_loopw [19] (fun i wr => ∃ k : Nat, k ≤ x.length ∧ i = .int .i64 k ∧ Below w1.heap.size (w1.alloc (.cells #[.pointer none, .slice none 0 0] 55)) wr ∧ Lib.IsBuilder 55 5 w1.heap.size w1.heap.size (Lib.byteCells (catTo t x k)) wr ∧ Pre k (fun j => inT t (x.getD j 0) = true)) (fun i _ => x.length - (intOf i).toNat)
      case atStart => exact ⟨0, Nat.zero_le _, rfl, Below.refl _ _, hBd, Pre.zero⟩
      case round =>
        obtain ⟨k, hk, rfl, hbr0, hBr, hpre⟩ := hrel
        have hbr : Bw w1 wr := Below.trans hbA hbr0
        have hsz := hbr.size
        by_cases hlt : k < x.length
        · obtain ⟨b, off, y, rfl, hy, hy1, hy2, hc⟩ := (hx0.out.after (hb1.then hbr)).int hlt
          have hgd := Lib.hid (getD_of (d := (0 : Int)) hy.out)
          by_cases c1 : 1 ≤ y
          · by_cases c2' : y ≤ t.length
            · obtain ⟨j, hj⟩ : ∃ j : Nat, y - 1 = (j : Int) := ⟨(y - 1).toNat, by omega⟩
              obtain ⟨b', off', z, rfl, hz, hz1', hc0⟩ := (h0.out.after (hb1.then hbr)).str (k := j) (by omega)
              have hz40 := (Hnm.out z (List.mem_of_getElem? hz.out)).2
              have hst : Hid (catTo t x (k + 1) = catTo t x k ++ z.data.toList) := by
                show _ = _
                rw [catTo, hgd.out, show (y - 1).toNat = j by omega, getD_of hz.out]
              have hcl := Hcl.out k
              have Hq2 : Hid (inT t (x.getD k 0) = true) := by show _ = _; rw [hgd.out]; unfold inT; rw [decide_eq_true c1, decide_eq_true c2']; rfl
              have HS := Lib.hid (writeString_any w1.heap.size w1.heap.size _ z wr hBr (by rw [Lib.byteCells_length]; omega) hsz)
              have Hpre := Lib.hid hpre
              have Hbr0 := Lib.hid hbr0
              clear hBr hpre hbr0 hbr hbA hBd
              go_wp2_with (go_at_call 37; (with_reducible refine HS.out.mono ?_); rintro e w3 ⟨rfl, hB3, hb3⟩)
              rw [cells_snoc, ← hst.out] at hB3
              exact ⟨⟨k + 1, hlt, by go_num, Below.trans Hbr0.out hb3, .inr hB3, Hpre.out.snoc Hq2.out⟩, by simp [intOf]; omega⟩
            · have Hr : Hid (txt vT t x = (⟨#[]⟩, 1)) := by
                show _ = _
                unfold txt wordB
                rw [allR_false hlt (by show inT t (x.getD k 0) = false; rw [hgd.out]; unfold inT; rw [decide_eq_false c2']; simp)]
                simp
              go_wp2_with fail
              go_ret2
              exact Hend.out _ _ _ Hr.out rfl (hb1.then hbr)
          · have Hr : Hid (txt vT t x = (⟨#[]⟩, 1)) := by
              show _ = _
              unfold txt wordB
              rw [allR_false hlt (by show inT t (x.getD k 0) = false; rw [hgd.out]; unfold inT; rw [decide_eq_false c1]; rfl)]
              simp
            go_wp2_with fail
            go_ret2
            exact Hend.out _ _ _ Hr.out rfl (hb1.then hbr)
        · have hk2 : k = x.length := by omega
          subst hk2
          have Hr : Hid (txt vT t x = (⟨(catTo t x x.length).toArray⟩, 0)) := by
            show _ = _
            unfold txt wordB
            rw [Hq.out, decide_eq_true (by omega : x.length ≤ 200), allR_true (fun j hj => hpre j hj)]
            rfl
          have HS := Lib.hid (Tryd.Builder_String_any w1.heap.size w1.heap.size _ wr hBr hsz)
          go_wp2_with (go_at_call 38; (with_reducible refine HS.out.mono ?_); rintro e w3 ⟨rfl, hb3⟩)
          go_ret2
          exact Hend.out _ _ _ Hr.out rfl (hb1.then (Below.trans hbr hb3))
end Go.Proofs.YtfdmpbihepkjnaaDoor

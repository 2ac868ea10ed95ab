/- The contracts of 'count', 'Matches', 'Barrier' (the reference's), 'matches', 'barrier' (the program's). Conditions: what the arguments read as. -/
import Derived.Test.YthecmbmidoagaaaDoorC3
import Derived.Laws.EntriesVeiled
namespace Go.Proofs.YthecmbmidoagaaaDoor
open Go.RowKit Go.Maps
open Pl

theorem cnt_snoc (c : List Rdg) (k : Nat) (tags : List ByteArray) {x : Rdg} (h : c[k]? = some x) : cnt (c.take (k + 1)) tags = cnt (c.take k) tags + (if hasB x tags then 1 else 0) := by
  unfold cnt
  rw [List.take_add_one, h, List.filter_append]
  by_cases p : hasB x tags = true
  · simp [p]
  · simp [p]
theorem cnt_le (c : List Rdg) (tags : List ByteArray) : cnt c tags ≤ c.length := List.length_filter_le _ _
theorem cnt_any (c : List Rdg) (tags : List ByteArray) : (c.any fun r => hasB r tags) = decide (0 < cnt c tags) := by
  unfold cnt
  rw [Bool.eq_iff_iff, List.any_eq_true, decide_eq_true_iff, List.length_pos_iff_exists_mem]
  simp [List.mem_filter]
theorem cnt_all (c : List Rdg) (tags : List ByteArray) : (!c.any fun r => !hasB r tags) = decide (cnt c tags = c.length) := by
  unfold cnt
  rw [Bool.eq_iff_iff, decide_eq_true_iff, List.length_filter_eq_length_iff]
  simp

set_option maxRecDepth 100000 in
theorem count_any {fm : ByteArray} {u v : Value} {rs : List Rdg} {tags : List ByteArray} {w : World} (hr : Rd tRdg w u rs) (ht : Rd tStr w v tags) :
    Calls Tryd.prog 64 #[.agg #[.string fm, u], v] w fun e w' => e = .returned (.int .i64 (cnt rs tags)) ∧ Bw w w' := by
  have hm := hr.len_le
  obtain ⟨A, c, rfl, _, _⟩ := hr.form
  have hb1 := bw_refl_al w (.cells #[.string fm, .slice A rs.length c] 37)
  go_enter Tryd.func64, Tryd.ntmps64
  go_wp2_with fail
  go_loopw [5, 6] (fun n i wr => ∃ k : Nat, k ≤ rs.length ∧ i = .int .i64 k ∧ n = .int .i64 (cnt (rs.take k) tags) ∧ Bw (w.alloc (.cells #[.string fm, .slice A rs.length c] 37)) wr) (fun _ i _ => rs.length - (intOf i).toNat)
  case atStart => exact ⟨0, Nat.zero_le _, rfl, by simp [cnt], Below.refl _ _⟩
  case round =>
    obtain ⟨k, hk, rfl, rfl, hd⟩ := hrel
    have hbw := hb1.then hd
    have hc0 : wr.cell? ⟨w.heap.size, 1, none⟩ = some (.slice A rs.length c) := bw_cell hd (by go_simp)
    have hcl : cnt (rs.take k) tags ≤ k := Nat.le_trans (cnt_le _ _) (by rw [List.length_take]; omega)
    by_cases hlt : k < rs.length
    · obtain ⟨b, off, y, u, rfl, hy, hyr, hc⟩ := lookR (hr.after hbw) hlt
      obtain ⟨u', e, hyu⟩ := rep_rdg hyr
      injection e with e; subst e
      have HS := Lib.hid (cnt_snoc rs k tags hy.out)
      have HC := Lib.hid (rhas_any hyu.rd (ht.after hbw))
      clear hyr hyu hr ht
      generalize cnt (rs.take k) tags = n at *
      cases q : hasB y tags <;> rw [q] at HC <;> rw [q] at HS
      · go_wp2_with ((with_reducible refine HC.out.mono ?_); rintro e w' ⟨rfl, hb⟩)
        exact ⟨⟨k + 1, hlt, by go_num, by rw [HS.out]; rfl, hd.then hb⟩, by simp [intOf]; omega⟩
      · go_wp2_with ((with_reducible refine HC.out.mono ?_); rintro e w' ⟨rfl, hb⟩)
        exact ⟨⟨k + 1, hlt, by go_num, by rw [HS.out]; go_num, hd.then hb⟩, by simp [intOf]; omega⟩
    · have hk2 : k = rs.length := by omega
      subst hk2
      go_wp2_with fail
      go_ret
      exact ⟨by rw [List.take_length]; rfl, hbw⟩

set_option maxRecDepth 100000 in
theorem rmat_any {t : Tst} {u1 u2 u : Value} {c : Coh} {w : World} (h1 : Rd tStr w u1 t.tags) (hr : Rd tRdg w u c.2) :
    Calls Tryd.prog 54 #[.agg #[.int .i64 t.at', .bool t.scan, .bool t.neg, .bool t.care, u1, u2], .agg #[.string c.1, u]] w fun e w' => e = .returned (.bool (matB t c)) ∧ Bw w w' := by
  have hm := hr.len_le
  obtain ⟨A, cc, rfl, _, _⟩ := hr.form
  obtain ⟨at', scan, neg, care, tags, bar⟩ := t
  obtain ⟨fm, rs⟩ := c
  simp only at *
  have hb2 := bw_al (bw_refl_al w (.cells #[.int .i64 at', .bool scan, .bool neg, .bool care, u1, u2] 28)) (.cells #[.string fm, .slice A rs.length cc] 37)
  have HC := Lib.hid (count_any (fm := fm) (hr.after hb2) (h1.after hb2))
  have hle := cnt_le rs tags
  have Hv : Hid (matB ⟨at', scan, neg, care, tags, bar⟩ (fm, rs) = (decide (0 < cnt rs tags) && (!care || decide (cnt rs tags = rs.length)))) := rfl
  clear h1 hr
  generalize matB _ _ = R at *
  generalize cnt rs tags = n at *
  by_cases h0 : 0 < n
  · have h0' : (n : Int) > 0 := by omega
    cases care
    · have hR : Hid (true = R) := by show _ = _; rw [Hv.out, decide_eq_true h0]; rfl
      go_enter Tryd.func54, Tryd.ntmps54
      go_wp2_with ((with_reducible refine HC.out.mono ?_); rintro e w' ⟨rfl, hb⟩; have hc0 : w'.cell? ⟨w.heap.size, 3, none⟩ = some (.bool false) := bw_cell hb (by go_simp))
      go_ret
      exact ⟨ret_b hR.out, hb2.then hb⟩
    · by_cases hn : n = rs.length
      · have hR : Hid (true = R) := by show _ = _; rw [Hv.out, decide_eq_true h0, decide_eq_true hn]; rfl
        subst hn
        go_enter Tryd.func54, Tryd.ntmps54
        go_wp2_with ((with_reducible refine HC.out.mono ?_); rintro e w' ⟨rfl, hb⟩; have hc0 : w'.cell? ⟨w.heap.size, 3, none⟩ = some (.bool true) := bw_cell hb (by go_simp); have hc1 : w'.cell? ⟨w.heap.size + 1, 1, none⟩ = some (.slice A rs.length cc) := bw_cell hb (by go_simp))
        go_ret
        exact ⟨by simp [hR.out.symm], hb2.then hb⟩
      · have hR : Hid (false = R) := by show _ = _; rw [Hv.out, decide_eq_true h0, decide_eq_false hn]; rfl
        have hn' : ¬ ((n : Int) = (rs.length : Int)) := by omega
        go_enter Tryd.func54, Tryd.ntmps54
        go_wp2_with ((with_reducible refine HC.out.mono ?_); rintro e w' ⟨rfl, hb⟩; have hc0 : w'.cell? ⟨w.heap.size, 3, none⟩ = some (.bool true) := bw_cell hb (by go_simp); have hc1 : w'.cell? ⟨w.heap.size + 1, 1, none⟩ = some (.slice A rs.length cc) := bw_cell hb (by go_simp))
        go_ret
        exact ⟨by rw [← hR.out]; simp [hn'], hb2.then hb⟩
  · have h0' : ¬ (n : Int) > 0 := by omega
    have hR : Hid (false = R) := by show _ = _; rw [Hv.out, decide_eq_false h0]; rfl
    go_enter Tryd.func54, Tryd.ntmps54
    go_wp2_with ((with_reducible refine HC.out.mono ?_); rintro e w' ⟨rfl, hb⟩)
    go_ret
    exact ⟨ret_b hR.out, hb2.then hb⟩

set_option maxRecDepth 100000 in
theorem rbar_any {t : Tst} {u1 u2 u : Value} {c : Coh} {w : World} (h2 : Rd tStr w u2 t.bar) (hr : Rd tRdg w u c.2) :
    Calls Tryd.prog 55 #[.agg #[.int .i64 t.at', .bool t.scan, .bool t.neg, .bool t.care, u1, u2], .agg #[.string c.1, u]] w fun e w' => e = .returned (.bool (barB t c)) ∧ Bw w w' := by
  have hm := h2.len_le
  obtain ⟨A, cc, rfl, _, _⟩ := h2.form
  obtain ⟨at', scan, neg, care, tags, bar⟩ := t
  obtain ⟨fm, rs⟩ := c
  simp only at *
  have hb2 := bw_al (bw_refl_al w (.cells #[.int .i64 at', .bool scan, .bool neg, .bool care, u1, .slice A bar.length cc] 28)) (.cells #[.string fm, u] 37)
  have HC := Lib.hid (count_any (fm := fm) (hr.after hb2) (h2.after hb2))
  have Hv : Hid (barB ⟨at', scan, neg, care, tags, bar⟩ (fm, rs) = (decide (0 < bar.length) && decide (0 < cnt rs bar))) := rfl
  clear h2 hr
  generalize barB _ _ = R at *
  generalize cnt rs bar = n at *
  by_cases h0 : 0 < bar.length
  · have h0' : (bar.length : Int) > 0 := by omega
    by_cases hn : 0 < n
    · have hR : Hid (true = R) := by show _ = _; rw [Hv.out, decide_eq_true h0, decide_eq_true hn]; rfl
      go_enter Tryd.func55, Tryd.ntmps55
      go_wp2_with ((with_reducible refine HC.out.mono ?_); rintro e w' ⟨rfl, hb⟩)
      go_ret
      exact ⟨by rw [← hR.out]; simp; try omega, hb2.then hb⟩
    · have hR : Hid (false = R) := by show _ = _; rw [Hv.out, decide_eq_true h0, decide_eq_false hn]; rfl
      go_enter Tryd.func55, Tryd.ntmps55
      go_wp2_with ((with_reducible refine HC.out.mono ?_); rintro e w' ⟨rfl, hb⟩)
      go_ret
      exact ⟨by rw [← hR.out]; simp; try omega, hb2.then hb⟩
  · have h0' : ¬ (bar.length : Int) > 0 := by omega
    have hR : Hid (false = R) := by show _ = _; rw [Hv.out, decide_eq_false h0]; rfl
    go_enter Tryd.func55, Tryd.ntmps55
    go_wp2_with fail
    go_ret
    exact ⟨ret_b hR.out, hb2⟩

/-- The closures that ask whether a reading has the tags of a boxed test or rule. -/
theorem m1_any {g : Nat} {u v : Value} {r tags : List ByteArray} {w : World} (hc : w.cell? ⟨g, 4, none⟩ = some v) (hr : Rd tStr w u r) (ht : Rd tStr w v tags) :
    Calls Tryd.prog 77 #[.agg #[u], .pointer (some ⟨g, 0, none⟩)] w fun e w' => e = .returned (.bool (hasB r tags)) ∧ Bw w w' := by
  have hb1 := bw_refl_al w (.cells #[u] 24)
  have HC := Lib.hid (has_any (hr.after hb1) (ht.after hb1))
  have hc' := bw_cell hb1 hc
  clear hr ht
  go_enter Tryd.func77, Tryd.ntmps77
  go_wp2_with ((with_reducible refine HC.out.mono ?_); rintro e w' ⟨rfl, hb⟩)
  go_ret
  exact ⟨rfl, hb1.then hb⟩
theorem m3_any {g : Nat} {u v : Value} {r tags : List ByteArray} {w : World} (hc : w.cell? ⟨g, 5, none⟩ = some v) (hr : Rd tStr w u r) (ht : Rd tStr w v tags) :
    Calls Tryd.prog 79 #[.agg #[u], .pointer (some ⟨g, 0, none⟩)] w fun e w' => e = .returned (.bool (hasB r tags)) ∧ Bw w w' := by
  have hb1 := bw_refl_al w (.cells #[u] 24)
  have HC := Lib.hid (has_any (hr.after hb1) (ht.after hb1))
  have hc' := bw_cell hb1 hc
  clear hr ht
  go_enter Tryd.func79, Tryd.ntmps79
  go_wp2_with ((with_reducible refine HC.out.mono ?_); rintro e w' ⟨rfl, hb⟩)
  go_ret
  exact ⟨rfl, hb1.then hb⟩
theorem c2_any {g : Nat} {u v : Value} {r tags : List ByteArray} {w : World} (hc : w.cell? ⟨g, 1, none⟩ = some v) (hr : Rd tStr w u r) (ht : Rd tStr w v tags) :
    Calls Tryd.prog 58 #[.agg #[u], .pointer (some ⟨g, 0, none⟩)] w fun e w' => e = .returned (.bool (hasB r tags)) ∧ Bw w w' := by
  have hb1 := bw_refl_al w (.cells #[u] 24)
  have HC := Lib.hid (has_any (hr.after hb1) (ht.after hb1))
  have hc' := bw_cell hb1 hc
  clear hr ht
  go_enter Tryd.func58, Tryd.ntmps58
  go_wp2_with ((with_reducible refine HC.out.mono ?_); rintro e w' ⟨rfl, hb⟩)
  go_ret
  exact ⟨rfl, hb1.then hb⟩
theorem m1_asks {g : Nat} {v : Value} {l : List Rdg} {tags : List ByteArray} {w : World} (hc : w.cell? ⟨g, 4, none⟩ = some v) (ht : Rd tStr w v tags) :
    Asks tRdg vAgg 77 #[.pointer (some ⟨g, 0, none⟩)] w l (fun x => hasB x tags) := by
  refine ⟨fun _ _ => by kernel_rfl, ?_⟩
  rintro x cs w2 hx hb hrep
  obtain ⟨u, rfl, hu⟩ := rep_rdg hrep
  exact m1_any (bw_cell hb hc) hu.rd (ht.after hb)
theorem m3_asks {g : Nat} {v : Value} {l : List Rdg} {tags : List ByteArray} {w : World} (hc : w.cell? ⟨g, 5, none⟩ = some v) (ht : Rd tStr w v tags) :
    Asks tRdg vAgg 79 #[.pointer (some ⟨g, 0, none⟩)] w l (fun x => hasB x tags) := by
  refine ⟨fun _ _ => by kernel_rfl, ?_⟩
  rintro x cs w2 hx hb hrep
  obtain ⟨u, rfl, hu⟩ := rep_rdg hrep
  exact m3_any (bw_cell hb hc) hu.rd (ht.after hb)
theorem c2_asks {g : Nat} {v : Value} {l : List Rdg} {tags : List ByteArray} {w : World} (hc : w.cell? ⟨g, 1, none⟩ = some v) (ht : Rd tStr w v tags) :
    Asks tRdg vAgg 58 #[.pointer (some ⟨g, 0, none⟩)] w l (fun x => hasB x tags) := by
  refine ⟨fun _ _ => by kernel_rfl, ?_⟩
  rintro x cs w2 hx hb hrep
  obtain ⟨u, rfl, hu⟩ := rep_rdg hrep
  exact c2_any (bw_cell hb hc) hu.rd (ht.after hb)
theorem m2_asks {g : Nat} {K : FuncId} {caps : Array Value} {l : List Rdg} {p : Rdg → Bool} {w : World} (hc : w.cell? ⟨g, 0, none⟩ = some (.func (.func K) #[] caps)) (ha : Asks tRdg vAgg K caps w l p) :
    Asks tRdg vAgg 78 #[.pointer (some ⟨g, 0, none⟩)] w l (fun x => !p x) := by
  refine ⟨fun _ _ => by kernel_rfl, ?_⟩
  rintro x cs w2 hx hb hrep
  obtain ⟨u, rfl, hu⟩ := rep_rdg hrep
  have hb1 := bw_refl_al w2 (.cells #[u] 24)
  have HC := Lib.hid (ha.2 x [u] _ hx (hb.then hb1) ⟨u, rfl, (hu.after hb1)⟩)
  have hcf := ha.1 (#[vAgg [u]] ++ caps) (w2.alloc (.cells #[u] 24))
  have hc' := bw_cell (hb.then hb1) hc
  clear ha hu hrep hx
  show Calls _ _ #[.agg #[u], .pointer (some ⟨g, 0, none⟩)] _ _
  go_enter Tryd.func78, Tryd.ntmps78
  go_wp2_with ((with_reducible refine HC.out.mono ?_); rintro e w' ⟨rfl, hb2⟩)
  go_ret
  exact ⟨rfl, hb1.then hb2⟩
theorem c3_asks {g : Nat} {K : FuncId} {caps : Array Value} {l : List Rdg} {p : Rdg → Bool} {w : World} (hc : w.cell? ⟨g, 0, none⟩ = some (.func (.func K) #[] caps)) (ha : Asks tRdg vAgg K caps w l p) :
    Asks tRdg vAgg 59 #[.pointer (some ⟨g, 0, none⟩)] w l (fun x => !p x) := by
  refine ⟨fun _ _ => by kernel_rfl, ?_⟩
  rintro x cs w2 hx hb hrep
  obtain ⟨u, rfl, hu⟩ := rep_rdg hrep
  have hb1 := bw_refl_al w2 (.cells #[u] 24)
  have HC := Lib.hid (ha.2 x [u] _ hx (hb.then hb1) ⟨u, rfl, (hu.after hb1)⟩)
  have hcf := ha.1 (#[vAgg [u]] ++ caps) (w2.alloc (.cells #[u] 24))
  have hc' := bw_cell (hb.then hb1) hc
  clear ha hu hrep hx
  show Calls _ _ #[.agg #[u], .pointer (some ⟨g, 0, none⟩)] _ _
  go_enter Tryd.func59, Tryd.ntmps59
  go_wp2_with ((with_reducible refine HC.out.mono ?_); rintro e w' ⟨rfl, hb2⟩)
  go_ret
  exact ⟨rfl, hb1.then hb2⟩

theorem mat_plain (t : Tst) (c : Coh) : matB t c = if t.care then decide (0 < c.2.length) && !(c.2.any fun r => !hasB r t.tags) else c.2.any fun r => hasB r t.tags := by
  unfold matB
  rw [cnt_any, cnt_all]
  cases t.care
  · simp
  · have := cnt_le c.2 t.tags
    simp only [Bool.not_true, Bool.false_or, if_true]
    rw [Bool.eq_iff_iff]
    simp only [Bool.and_eq_true, decide_eq_true_iff]
    omega

set_option maxRecDepth 100000 in
theorem mat_any {t : Tst} {u1 u2 u : Value} {c : Coh} {w : World} (h1 : Rd tStr w u1 t.tags) (hr : Rd tRdg w u c.2) :
    Calls Tryd.prog 70 #[.agg #[.int .i64 t.at', .bool t.scan, .bool t.neg, .bool t.care, u1, u2], .agg #[.string c.1, u]] w fun e w' => e = .returned (.bool (matB t c)) ∧ Bw w w' := by
  rw [mat_plain]
  have hm := hr.len_le
  obtain ⟨A, cc, rfl, _, _⟩ := hr.form
  obtain ⟨at', scan, neg, care, tags, bar⟩ := t
  obtain ⟨fm, rs⟩ := c
  simp only at *
  have hb2 := bw_al (bw_refl_al w (.cells #[.int .i64 at', .bool scan, .bool neg, .bool care, u1, u2] 28)) (.cells #[.string fm, .slice A rs.length cc] 37)
  obtain ⟨W2, hW2⟩ : ∃ W2, W2 = (w.alloc (.cells #[.int .i64 at', .bool scan, .bool neg, .bool care, u1, u2] 28)).alloc (.cells #[.string fm, .slice A rs.length cc] 37) := ⟨_, rfl⟩
  have hsz : W2.heap.size = w.heap.size + 2 := by rw [hW2]; simp
  have hb3 := bw_al hb2 (.cells #[.func (.func 77) #[] #[.pointer (some ⟨w.heap.size, 0, none⟩)]] 75)
  rw [← hW2] at hb2 hb3
  have hc4 : W2.cell? ⟨w.heap.size, 4, none⟩ = some u1 := by rw [hW2]; go_simp
  have ha := m1_asks (l := rs) (hc := bw_cell (bw_refl_al W2 (.cells #[.func (.func 77) #[] #[.pointer (some ⟨w.heap.size, 0, none⟩)]] 75)) hc4) (h1.after hb3)
  have hn := m2_asks (g := W2.heap.size) (by go_simp) ha
  have hr3 := hr.after hb3
  have HA := Lib.hid (containsR_any hr3 ha)
  have HN := Lib.hid (containsR_any hr3 hn)
  rw [hsz] at HN
  rw [hW2] at HA HN hb3
  clear hn ha h1 hr hr3 hc4 hsz hW2 hb2
  cases care
  · rw [if_neg (by simp)]
    generalize (rs.any fun r => hasB r tags) = R at *
    clear HN
    go_enter Tryd.func70, Tryd.ntmps70
    go_wp2_with ((with_reducible refine HA.out.mono ?_); rintro e w' ⟨rfl, hb⟩)
    go_ret
    exact ⟨rfl, hb3.then hb⟩
  · rw [if_pos rfl]
    generalize (rs.any fun r => !hasB r tags) = R at *
    clear HA
    by_cases h0 : 0 < rs.length
    · have h0' : (rs.length : Int) > 0 := by omega
      rw [decide_eq_true h0]
      go_enter Tryd.func70, Tryd.ntmps70
      go_wp2_with ((with_reducible refine HN.out.mono ?_); rintro e w' ⟨rfl, hb⟩)
      go_ret
      exact ⟨by simp, hb3.then hb⟩
    · have h0' : ¬ (rs.length : Int) > 0 := by omega
      rw [decide_eq_false h0]
      go_enter Tryd.func70, Tryd.ntmps70
      go_wp2_with fail
      go_ret
      exact ⟨rfl, hb3⟩

set_option maxRecDepth 100000 in
theorem bar_any {t : Tst} {u1 u2 u : Value} {c : Coh} {w : World} (h2 : Rd tStr w u2 t.bar) (hr : Rd tRdg w u c.2) :
    Calls Tryd.prog 71 #[.agg #[.int .i64 t.at', .bool t.scan, .bool t.neg, .bool t.care, u1, u2], .agg #[.string c.1, u]] w fun e w' => e = .returned (.bool (barB t c)) ∧ Bw w w' := by
  have hv : barB t c = (decide (0 < t.bar.length) && c.2.any fun r => hasB r t.bar) := by unfold barB; rw [cnt_any]
  rw [hv]
  clear hv
  have hm := h2.len_le
  obtain ⟨A, cc, rfl, _, _⟩ := h2.form
  obtain ⟨at', scan, neg, care, tags, bar⟩ := t
  obtain ⟨fm, rs⟩ := c
  simp only at *
  obtain ⟨W2, hW2⟩ : ∃ W2, W2 = (w.alloc (.cells #[.int .i64 at', .bool scan, .bool neg, .bool care, u1, .slice A bar.length cc] 28)).alloc (.cells #[.string fm, u] 37) := ⟨_, rfl⟩
  have hb2 : Bw w W2 := by rw [hW2]; exact bw_al (bw_refl_al w _) _
  have hc5 : W2.cell? ⟨w.heap.size, 5, none⟩ = some (.slice A bar.length cc) := by rw [hW2]; go_simp
  have ha := m3_asks (l := rs) (hc := hc5) (h2.after hb2)
  have HA := Lib.hid (containsR_any (hr.after hb2) ha)
  rw [hW2] at HA hb2
  clear ha hc5 hW2 h2 hr
  generalize (rs.any fun r => hasB r bar) = R at *
  by_cases h0 : 0 < bar.length
  · have h0' : (bar.length : Int) > 0 := by omega
    rw [decide_eq_true h0]
    go_enter Tryd.func71, Tryd.ntmps71
    go_wp2_with ((with_reducible refine HA.out.mono ?_); rintro e w' ⟨rfl, hb⟩)
    go_ret
    exact ⟨by simp, hb2.then hb⟩
  · have h0' : ¬ (bar.length : Int) > 0 := by omega
    rw [decide_eq_false h0]
    go_enter Tryd.func71, Tryd.ntmps71
    go_wp2_with fail
    go_ret
    exact ⟨rfl, hb2⟩
end Go.Proofs.YthecmbmidoagaaaDoor

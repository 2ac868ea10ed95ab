/- What valid sounds and words are good for; the contracts of the program's Valid, marks and Syllables. -/
import Derived.Test.YtockfkmemoggiaaSA
import Derived.Test.YtockfkmemoggiaaS7
namespace Go.Proofs.Ytockfkmemoggiaa
open Go.RowKit Go.Maps
open Pl

theorem valid_parts {s : Snd} (h : validB s = true) : allR s.vow.length (goodC s.vow []) = true ∧ allR s.con.length (goodC s.con s.vow) = true ∧ allR s.ons.length (goodO s) = true ∧
    s.vow.length ≤ 40 ∧ s.con.length ≤ 40 ∧ s.ons.length ≤ 40 := by
  rw [cls_split] at h
  simp only [Bool.and_eq_true, decide_eq_true_eq] at h
  obtain ⟨⟨⟨⟨⟨h1, h2⟩, h3⟩, h4⟩, h5⟩, h6⟩ := h
  exact ⟨h4, h5, h6, h1, h2, h3⟩
theorem valid_ap {s : Snd} (h : validB s = true) : Ap s := by
  rintro c ⟨hv, hc⟩
  have hc' : c ∈ s.con := by unfold hasB at hc; simpa using hc
  obtain ⟨j, hj, rfl⟩ := List.getElem_of_mem hc'
  have := allR_iff.1 (valid_parts h).2.1 j hj
  unfold goodC at this
  rw [List.getD_eq_getElem?_getD, List.getElem?_eq_getElem hj] at this
  simp only [Option.getD_some, Bool.and_eq_true, Bool.not_eq_true'] at this
  rw [this.2] at hv; cases hv
theorem valid_on {s : Snd} (h : validB s = true) : ∀ o ∈ s.ons, OnP o := by
  have := ons_of (valid_parts h).2.1 (k := s.ons.length) (fun j hj => allR_iff.1 (valid_parts h).2.2.1 j hj)
  rwa [List.take_length] at this
theorem valid_len {s : Snd} (h : validB s = true) : ∀ o ∈ s.ons, 1 ≤ o.length ∧ o.length ≤ 4 := fun o ho => ⟨(valid_on h o ho).1, (valid_on h o ho).2.1⟩
theorem word_wd {s : Snd} {x : List Int} (h : wordB s x = true) : Wd s x ∧ x.length ≤ 200 := by
  unfold wordB at h
  simp only [Bool.and_eq_true, decide_eq_true_eq] at h
  refine ⟨fun j hj => ?_, h.1⟩
  have := allR_iff.1 h.2 j hj
  simpa using this
theorem word_sym {s : Snd} {x : List Int} (hv : validB s = true) (h : wordB s x = true) : ∀ y ∈ x, 1 ≤ y ∧ y ≤ 500 := by
  intro y hy
  obtain ⟨j, hj, rfl⟩ := List.getElem_of_mem hy
  have := (word_wd h).1 j hj
  rw [List.getD_eq_getElem?_getD, List.getElem?_eq_getElem hj] at this
  rcases this with h | h
  · exact cls_sym (valid_parts hv).1 _ (by unfold hasB at h; simpa using h)
  · exact cls_sym (valid_parts hv).2.1 _ (by unfold hasB at h; simpa using h)

def okB (s : Snd) (x : List Int) : Bool := validB s && wordB s x
theorem ok_parts {s : Snd} {x : List Int} (h : okB s x = true) : validB s = true ∧ wordB s x = true := by
  unfold okB at h; simpa using h
theorem syl_one {s : Snd} {x : List Int} (h : okB s x = true) : sylP s x = sylR s x :=
  syl_same (valid_ap (ok_parts h).1) (word_wd (ok_parts h).2).1 (valid_len (ok_parts h).1)

/-- What both 'Syllables' hand back. -/
def SylR (w : World) (s : Snd) (x : List Int) (e : Ending) (w' : World) : Prop :=
  ∃ u, e = .returned (.tuple #[u, .int .i64 (if okB s x then 0 else 1)]) ∧ Bw w w' ∧ Sl (tSlice tInt) w' (Hi w.heap.size) u (if okB s x then sylR s x else [])

theorem pvalid_any {a b c : Value} {s : Snd} {w : World} (h : SndR w a b c s) :
    Calls Try.prog 13 #[.agg #[a, b, c]] w fun e w' => e = .returned (.bool (validB s)) ∧ Bw w w' := by
  have hB : Bw w (w.alloc (.cells #[a, b, c] 25)) := (Below.refl _ _).alloc (Nat.le_refl _) _
  have HR := Lib.hid (read_any (h.alloc (.cells #[a, b, c] 25)))
  clear h
  go_enter Try.func13, Try.ntmps13
  go_wp2_with fail
  refine HR.out.mono ?_
  rintro e w1 ⟨hb, m1, m2, m3, rfl, _⟩
  go_wp2_with fail
  go_ret
  exact ⟨rfl, hB.then hb⟩

theorem marks_any {a b c : Value} {s : Snd} {m : Int} {w : World} (h : SetsR w a b s) (hm1 : -9223372036854775808 ≤ m) (hm2 : m ≤ 9223372036854775807) :
    Calls Try.prog 27 #[.agg #[a, b, c], .int .i64 m] w fun e w' => e = .returned (.bool (markB s m)) ∧ Bw w w' := by
  have hB : Bw w (w.alloc (.cells #[a, b, c] 47)) := (Below.refl _ _).alloc (Nat.le_refl _) _
  have lk1 := (h.vow.alloc (.cells #[a, b, c] 47)).look hm1 hm2
  have lk2 := (h.con.alloc (.cells #[a, b, c] 47)).look hm1 hm2
  clear h
  by_cases c1 : 1 ≤ m
  · by_cases c2 : m ≤ 500
    · cases p : hasB s.vow m <;> have Hp := Lib.hid p <;> rw [p] at lk1 <;> clear p
      · cases q : hasB s.con m <;> have Hq := Lib.hid q <;> rw [q] at lk2 <;> clear q
        all_goals
          go_enter Try.func27, Try.ntmps27
          go_wp2_with fail
          go_ret
          exact ⟨ret_b (by unfold markB; rw [Hp.out, Hq.out, decide_eq_true c1, decide_eq_true c2]; rfl), hB⟩
      · go_enter Try.func27, Try.ntmps27
        go_wp2_with fail
        go_ret
        exact ⟨ret_b (by unfold markB; rw [Hp.out]; simp), hB⟩
    · go_enter Try.func27, Try.ntmps27
      go_wp2_with fail
      go_ret
      exact ⟨ret_b (by unfold markB; rw [decide_eq_false (by omega : ¬ m ≤ 500)]; simp), hB⟩
  · go_enter Try.func27, Try.ntmps27
    go_wp2_with fail
    go_ret
    exact ⟨ret_b (by unfold markB; rw [decide_eq_false (by omega : ¬ 1 ≤ m)]; simp), hB⟩

set_option maxHeartbeats 400000 in
theorem syllables_any {a b c v : Value} {s : Snd} {x : List Int} {w : World} (h : SndR w a b c s) (hx : Rd tInt w v x) :
    Calls Try.prog 9 #[.agg #[a, b, c], v] w (SylR w s x) := by
  have hB : Bw w (w.alloc (.cells #[a, b, c] 25)) := (Below.refl _ _).alloc (Nat.le_refl _) _
  have HR := Lib.hid (read_any (h.alloc (.cells #[a, b, c] 25)))
  obtain ⟨A, cc, rfl, _, _⟩ := hx.form
  have hx1 := hx.after hB
  clear h hx
  cases hv : validB s
  · have Hv := Lib.hid hv
    have ho : okB s x = false := by unfold okB; rw [hv]; rfl
    have Ho := Lib.hid ho
    clear hv ho
    go_enter Try.func9, Try.ntmps9
    go_wp2_with fail
    refine HR.out.mono ?_
    rintro e w1 ⟨hb, m1, m2, m3, rfl, _⟩
    rw [Hv.out]
    go_wp2_with fail
    go_ret2
    exact ⟨_, by rw [Ho.out]; rfl, (hB.then hb).then ((Below.refl _ _).alloc (Nat.le_refl _) _), by rw [Ho.out]; exact Sl.nil⟩
  · have Hv := Lib.hid hv
    cases hw : wordB s x
    · have ho : okB s x = false := by unfold okB; rw [hw]; simp
      have Ho := Lib.hid ho
      have Hw := Lib.hid hw
      clear hv ho hw
      go_enter Try.func9, Try.ntmps9
      go_wp2_with fail
      refine HR.out.mono ?_
      rintro e w1 ⟨hb, m1, m2, m3, rfl, hm⟩
      obtain ⟨h1, h2, h3⟩ := hm Hv.out
      rw [Hv.out]
      have HW := Lib.hid (pword_any (c := .map m3) (SetsR.mk (h1.alloc (.cells #[.map m1, .map m2, .map m3] 47)) (h2.alloc (.cells #[.map m1, .map m2, .map m3] 47))) ((hx1.after hb).alloc (.cells #[.map m1, .map m2, .map m3] 47)))
      have hb' : Bw w (w1.alloc (.cells #[.map m1, .map m2, .map m3] 47)) := (hB.then hb).then ((Below.refl _ _).alloc (Nat.le_refl _) _)
      clear h1 h2 h3 hm
      go_wp2_with fail
      refine (val_of (congrArg Value.bool Hw.out) HW.out).mono ?_
      rintro e w2 ⟨rfl, hb2⟩
      go_wp2_with fail
      go_ret2
      exact ⟨_, by rw [Ho.out]; rfl, hb'.then hb2, by rw [Ho.out]; exact Sl.nil⟩
    · have ho : okB s x = true := by unfold okB; rw [hv, hw]; rfl
      have Ho := Lib.hid ho
      have Hw := Lib.hid hw
      clear hv ho hw
      go_enter Try.func9, Try.ntmps9
      go_wp2_with fail
      refine HR.out.mono ?_
      rintro e w1 ⟨hb, m1, m2, m3, rfl, hm⟩
      obtain ⟨h1, h2, h3⟩ := hm Hv.out
      rw [Hv.out]
      have g1 := h1.alloc (.cells #[.map m1, .map m2, .map m3] 47)
      have g2 := h2.alloc (.cells #[.map m1, .map m2, .map m3] 47)
      have g3 := h3.alloc (.cells #[.map m1, .map m2, .map m3] 47)
      have g4 := (hx1.after hb).alloc (.cells #[.map m1, .map m2, .map m3] 47)
      have HW := Lib.hid (pword_any (c := .map m3) (SetsR.mk g1 g2) g4)
      have hb' : Bw w (w1.alloc (.cells #[.map m1, .map m2, .map m3] 47)) := (hB.then hb).then ((Below.refl _ _).alloc (Nat.le_refl _) _)
      have k0 : (w1.alloc (.cells #[.map m1, .map m2, .map m3] 47)).heap[w1.heap.size]? = some (.cells #[.map m1, .map m2, .map m3] 47 (0, 0)) := at_new rfl
      have kz : w1.heap.size < (w1.alloc (.cells #[.map m1, .map m2, .map m3] 47)).heap.size := by simp
      have K0 := Lib.hid k0
      have KZ := Lib.hid kz
      clear h1 h2 h3 hm k0 kz
      go_wp2_with fail
      refine (val_of (congrArg Value.bool Hw.out) HW.out).mono ?_
      rintro e w2 ⟨rfl, hb2⟩
      have k1 : w2.heap[w1.heap.size]? = some (.cells #[.map m1, .map m2, .map m3] 47 (0, 0)) := (hb2.block _ KZ.out).trans K0.out
      have q0 : w2.cell? ⟨w1.heap.size, 0, none⟩ = some (.map m1) := cell_of_row w2 _ 0 _ 47 (0, 0) k1
      have q1 : w2.cell? ⟨w1.heap.size, 1, none⟩ = some (.map m2) := cell_of_row w2 _ 1 _ 47 (0, 0) k1
      have q2 : w2.cell? ⟨w1.heap.size, 2, none⟩ = some (.map m3) := cell_of_row w2 _ 2 _ 47 (0, 0) k1
      have HD := Lib.hid (divide_any (SetsR.mk (g1.after hb2) (g2.after hb2)) (g3.after hb2) (g4.after hb2) (word_wd Hw.out).2 (word_sym Hv.out Hw.out) (valid_ap Hv.out) (word_wd Hw.out).1 (valid_len Hv.out))
      clear k1 g1 g2 g3 g4
      go_wp2_with fail
      refine HD.out.mono ?_
      rintro e w3 ⟨u, rfl, hb3, hu⟩
      go_wp2_with fail
      go_ret2
      refine ⟨u, by rw [Ho.out]; rfl, (hb'.then hb2).then hb3, ?_⟩
      rw [Ho.out, if_pos rfl, ← syl_one Ho.out]
      exact hu.weaken fun b hb => Nat.le_trans (hb'.then hb2).size hb
end Go.Proofs.Ytockfkmemoggiaa

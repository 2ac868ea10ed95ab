/- The contracts of the reference's Valid and of the count of nuclei. -/
import Derived.Test.YtockfkmemoggiaaR2
namespace Go.Proofs.Ytockfkmemoggiaa
open Go.RowKit
open Pl

set_option maxHeartbeats 400000 in
theorem valid_any {a b c : Value} {s : Snd} {w : World} (h : SndR w a b c s) :
    Calls Try.prog 14 #[.agg #[a, b, c]] w fun e w' => e = .returned (.bool (validB s)) ∧ Bw w w' := by
  have m3 := h.ons.len_le
  obtain ⟨C, cc, rfl, _, _⟩ := h.ons.form
  have h' := h.alloc (.cells #[a, b, .slice C s.ons.length cc] 25)
  have hB : Bw w (w.alloc (.cells #[a, b, .slice C s.ons.length cc] 25)) := (Below.refl _ _).alloc (Nat.le_refl _) _
  have hnil : ∀ W : World, Rd tInt W (.slice none 0 0) [] := fun W => Sl.nil
  clear h
  cases p : clsB s.vow [] <;> have Hp := Lib.hid p <;> clear p
  · go_enter Try.func14, Try.ntmps14
    go_wp2_with (go_at_call 28; (with_reducible refine (val_of (congrArg Value.bool Hp.out) (class_any h'.vow (hnil _))).mono ?_); rintro e w' ⟨rfl, n, rfl⟩)
    go_ret
    exact ⟨ret_b (by unfold validB; rw [Hp.out]; rfl), hB.drewN _⟩
  cases q : clsB s.con s.vow <;> have Hq := Lib.hid q <;> clear q
  · go_enter Try.func14, Try.ntmps14
    go_wp2_with (go_at_call 28; first | ((with_reducible refine (val_of (congrArg Value.bool Hp.out) (class_any h'.vow (hnil _))).mono ?_); rintro e w' ⟨rfl, n, rfl⟩) | ((with_reducible refine (val_of (congrArg Value.bool Hq.out) (class_any (h'.con.dn n) (h'.vow.dn n))).mono ?_); rintro e w' ⟨rfl, n2, rfl⟩))
    go_ret
    exact ⟨ret_b (by unfold validB; rw [Hp.out, Hq.out]; rfl), hB.drewN _⟩
  by_cases c3 : 40 < s.ons.length
  · go_enter Try.func14, Try.ntmps14
    go_wp2_with (go_at_call 28; first | ((with_reducible refine (val_of (congrArg Value.bool Hp.out) (class_any h'.vow (hnil _))).mono ?_); rintro e w' ⟨rfl, n, rfl⟩) | ((with_reducible refine (val_of (congrArg Value.bool Hq.out) (class_any (h'.con.dn n) (h'.vow.dn n))).mono ?_); rintro e w' ⟨rfl, n2, rfl⟩))
    go_ret
    exact ⟨ret_b (by unfold validB; rw [Hp.out, Hq.out, decide_eq_false (by omega : ¬ s.ons.length ≤ 40)]; rfl), hB.drewN _⟩
  go_enter Try.func14, Try.ntmps14
  go_wp2_with (go_at_call 28; first | ((with_reducible refine (val_of (congrArg Value.bool Hp.out) (class_any h'.vow (hnil _))).mono ?_); rintro e w' ⟨rfl, n, rfl⟩) | ((with_reducible refine (val_of (congrArg Value.bool Hq.out) (class_any (h'.con.dn n) (h'.vow.dn n))).mono ?_); rintro e w' ⟨rfl, n2, rfl⟩))
  go_loopw [3] (fun i wr => ∃ k : Nat, k ≤ s.ons.length ∧ i = .int .i64 k ∧ Dr (w.alloc (.cells #[a, b, .slice C s.ons.length cc] 25)) wr ∧ Pre k (fun i => goodO s i = true)) (fun i _ => s.ons.length - (intOf i).toNat)
  case atStart => exact ⟨0, Nat.zero_le _, rfl, (Dr.refl _).drewN _, Pre.zero⟩
  case round =>
    obtain ⟨k, hk, rfl, hd, hno⟩ := hrel
    have hr := h'
    by_cases hlt : k < s.ons.length
    · obtain ⟨bb, off, u, y, rfl, hy, hur, hc⟩ := hr.ons.sl hlt
      have hy' := Lib.hid (getD_of (d := []) hy.out)
      have := hur.len_le
      obtain ⟨A', c', rfl, _, _⟩ := hur.form
      obtain ⟨n0, rfl⟩ := hd
      have hcut := hr.ons.pre hk
      have hcon := hr.con
      have bad : goodO s k = false → validB s = false := fun e2 => by
        unfold validB; rw [allR_false hlt e2]; simp
      clear h' hr
      by_cases c1 : y.length < 1
      · go_wp2
        go_ret
        exact ⟨ret_b (bad (by unfold goodO; rw [hy'.out, decide_eq_false (by omega : ¬ 1 ≤ y.length)]; rfl)).symm, hB.drewN _⟩
      by_cases c2 : 4 < y.length
      · go_wp2
        go_ret
        exact ⟨ret_b (bad (by unfold goodO; rw [hy'.out, decide_eq_false (by omega : ¬ y.length ≤ 4)]; simp)).symm, hB.drewN _⟩
      cases p : allB y s.con [] <;> have Ha := Lib.hid p <;> clear p
      · go_wp2_with (go_at_call 29; (with_reducible refine (val_of (congrArg Value.bool Ha.out) (all_any (hur.dn _) (hcon.dn _) (hnil _))).mono ?_); rintro e w' ⟨rfl, n, rfl⟩)
        go_ret
        exact ⟨ret_b (bad (by unfold goodO; rw [hy'.out, Ha.out]; simp)).symm, hB.drewN _⟩
      cases p : listedB (s.ons.take k) y <;> have Hl := Lib.hid p <;> clear p
      · go_wp2_with (first | (go_at_call 29; (with_reducible refine (val_of (congrArg Value.bool Ha.out) (all_any (hur.dn _) (hcon.dn _) (hnil _))).mono ?_); rintro e w' ⟨rfl, n, rfl⟩) | (go_at_call 30; (with_reducible refine (val_of (congrArg Value.bool Hl.out) (listed_any (hcut.dn _) (hur.dn _))).mono ?_); rintro e w' ⟨rfl, n2, rfl⟩))
        exact ⟨⟨k + 1, hlt, by go_num, (Dr.refl _).drewN _, hno.snoc (by unfold goodO; rw [hy'.out, Ha.out, Hl.out]; simp; omega)⟩, by simp [intOf]; omega⟩
      · go_wp2_with (first | (go_at_call 29; (with_reducible refine (val_of (congrArg Value.bool Ha.out) (all_any (hur.dn _) (hcon.dn _) (hnil _))).mono ?_); rintro e w' ⟨rfl, n, rfl⟩) | (go_at_call 30; (with_reducible refine (val_of (congrArg Value.bool Hl.out) (listed_any (hcut.dn _) (hur.dn _))).mono ?_); rintro e w' ⟨rfl, n2, rfl⟩))
        go_ret
        exact ⟨ret_b (bad (by unfold goodO; rw [hy'.out, Hl.out]; simp)).symm, hB.drewN _⟩
    · obtain ⟨n0, rfl⟩ := hd
      go_wp2
      go_ret
      exact ⟨ret_b (by unfold validB; rw [Hp.out, Hq.out, decide_eq_true (by omega : s.ons.length ≤ 40), allR_true fun j hj => hno j (by omega)]; rfl), hB.drewN _⟩
end Go.Proofs.Ytockfkmemoggiaa

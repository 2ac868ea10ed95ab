/- The contracts of the reference's 'Pieces', 'Valid', 'Split' and 'Named'. Conditions: as stated. -/
import Derived.Test.YtonadloonidmjaaDoorS1d
import Derived.Test.YtonadloonidmjaaDoorS2
namespace Go.Proofs.YtonadloonidmjaaDoor
open Go.RowKit
open Pl

set_option maxRecDepth 100000 in
set_option maxHeartbeats 2000000 in
theorem pieces_any {s : ByteArray} {w : World} (hs : s.size ≤ 16384) : Calls Tryd.prog 81 #[.string s] w (Fr tStr w (pcs s)) := by
  obtain ⟨i0, hi, hz0, hz1, hzb⟩ := info_parts infoStr
  go_enter Tryd.func81, Tryd.ntmps81
  go_wp2_with fail
  go_loopw [3, 4] (fun l i wr => ∃ (pos f : Nat) (xs : List ByteArray), i = .int .i64 pos ∧ Bw w wr ∧ Acc tStr 9 wr w.heap.size l xs ∧ xs ++ pcsF s f pos = pcs s ∧ s.size ≤ pos + f ∧ pos ≤ s.size ∧ xs.length ≤ pos) (fun _ i _ => s.size - (intOf i).toNat)
  case atStart => exact ⟨0, s.size, [], rfl, Below.refl _ _, Acc.nil _ _, rfl, by omega, Nat.zero_le _, Nat.le_refl _⟩
  case round =>
    obtain ⟨pos, f, xs, rfl, hbr, hA, hok, hf, hpos, hxs⟩ := hrel
    by_cases hp : pos < s.size
    · have HP := Lib.hid (fun w' => pt_any (w := w') hs (Nat.le_of_lt hp))
      have hw1 := wd_pos s pos
      have hw2 := wd_le hp
      obtain ⟨f, rfl⟩ : ∃ f', f = f' + 1 := ⟨f - 1, by omega⟩
      have hstep : pcsF s (f + 1) pos = s.extract pos (pos + wd s pos) :: pcsF s f (pos + wd s pos) := by
        show (if s.size ≤ pos then [] else _) = _
        rw [if_neg (by omega)]
      rw [hstep] at hok
      have hmax : wd s pos = max (pt s pos).2 1 := rfl
      clear hstep
      generalize wd s pos = n at *
      generalize (pt s pos).1 = p0 at *
      generalize (pt s pos).2 = n0 at *
      have Hok := Lib.hid hok
      have hmaxI : max (n0 : Int) 1 = (n : Int) := by rw [hmax]; omega
      have hcut : ∀ w', (Instr.slice 9 (.string s) (some (.int .i64 (pos : Int))) (some (.int .i64 ((pos : Int) + n))) none).run Tryd.prog w' = .ok (.string (s.extract pos (pos + n))) w' := fun w' => cut_str s rfl (by omega) (by omega) hw2 w'
      clear hok hmax
      have hA2 := hA.alloc (.cells #[.string (s.extract pos (pos + n))] 9)
      have hb4 := bw_al hbr (.cells #[.string (s.extract pos (pos + n))] 9)
      have hxz : (s.extract pos (pos + n)).size ≤ maxLen := by rw [ByteArray.size_extract]; unfold maxLen; omega
      go_wp2_with (first
        | (go_at_call 95; refine (HP.out _).mono ?_; rintro e w2 ⟨rfl, rfl⟩)
        | (at_builtin; first
          | (refine wpList_app_one rfl _ _ rfl Tryd.underlying39 hi hz0 hz1 hzb rfl rfl hA2 rfl (at_new rfl) ⟨rfl, hxz⟩ (by unfold maxLen; omega) (by omega) hb4.size ?_
             intro v1 w3 hA3 hg3 hat3
             have hb5 := Acc.bw hb4 hg3 (fun g e => (hA2.own g e).1) (Nat.le_refl _))))
      exact ⟨⟨pos + n, f, _, by go_num, hb5, hA3, by rw [List.append_assoc]; exact Hok.out, by omega, hw2, by simp; omega⟩, by simp [intOf]; omega⟩
    · have hx : xs = pcs s := by
        rw [← hok]
        cases f with
        | zero => show xs = xs ++ []; simp
        | succ f => show xs = xs ++ (if s.size ≤ pos then [] else _); rw [if_pos (by omega)]; simp
      subst hx
      go_wp2_with fail
      go_ret
      exact ⟨_, rfl, hbr, hA.hi⟩

/-- One letter, as the reference sees it. -/
theorem one_any {p : ByteArray} {w : World} (hp : p.size ≤ 16384) : Calls Tryd.prog 82 #[.string p] w fun e w' => e = .returned (.bool (oneB p)) ∧ w' = w := by
  have HP := Lib.hid (fun w' => pt_any (w := w') (i := 0) hp (Nat.zero_le _))
  unfold oneB
  generalize (pt p 0).1 = p0 at *
  generalize (pt p 0).2 = n0 at *
  by_cases h1 : 0 < n0
  · by_cases h2 : n0 = p.size
    · rw [decide_eq_true h1, decide_eq_true h2]
      have h2' : (n0 : Int) = (p.size : Int) := by omega
      go_enter Tryd.func82, Tryd.ntmps82
      go_wp2_with (go_at_call 95; refine (HP.out _).mono ?_; rintro e w2 ⟨rfl, rfl⟩)
      go_ret
      exact ⟨by simp, rfl⟩
    · rw [decide_eq_true h1, decide_eq_false h2]
      have h2' : ¬ ((n0 : Int) = (p.size : Int)) := by omega
      go_enter Tryd.func82, Tryd.ntmps82
      go_wp2_with (go_at_call 95; refine (HP.out _).mono ?_; rintro e w2 ⟨rfl, rfl⟩)
      go_ret
      exact ⟨by simp [h2'], rfl⟩
  · rw [decide_eq_false h1]
    go_enter Tryd.func82, Tryd.ntmps82
    go_wp2_with (go_at_call 95; refine (HP.out _).mono ?_; rintro e w2 ⟨rfl, rfl⟩)
    go_ret
    exact ⟨rfl, rfl⟩

theorem pcs_ok (s : ByteArray) : (pcs s).all oneB = okS s := ok_same s s.size 0
theorem pcs_size (s : ByteArray) : ∀ f i, ∀ p ∈ pcsF s f i, p.size ≤ s.size
  | 0, _, p, h => by simp [pcsF] at h
  | f + 1, i, p, h => by
    unfold pcsF at h
    split at h
    · simp at h
    · rcases List.mem_cons.1 h with rfl | h
      · rw [ByteArray.size_extract]; omega
      · exact pcs_size s f _ p h
theorem pcs_count (s : ByteArray) : ∀ f i, (pcsF s f i).length ≤ s.size - i
  | 0, _ => by simp [pcsF]
  | f + 1, i => by
    unfold pcsF
    split
    · simp
    · have := pcs_count s f (i + wd s i)
      have := wd_pos s i
      rw [List.length_cons]; omega
end Go.Proofs.YtonadloonidmjaaDoor

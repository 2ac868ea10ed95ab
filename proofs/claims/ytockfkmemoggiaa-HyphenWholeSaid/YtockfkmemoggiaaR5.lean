/- The contract of the count of nuclei. -/
import Derived.Test.YtockfkmemoggiaaR1
namespace Go.Proofs.Ytockfkmemoggiaa
open Go.RowKit
open Pl

/-- The count of the maximal sequences of vowels among the first i symbols. -/
def nucB (s : Snd) (x : List Int) : Nat → Nat × Bool
  | 0 => (0, false)
  | i + 1 => ((nucB s x i).1 + if hasB s.vow (x.getD i 0) && !(nucB s x i).2 then 1 else 0, hasB s.vow (x.getD i 0))
theorem nucB_le (s : Snd) (x : List Int) : ∀ i, (nucB s x i).1 ≤ i
  | 0 => Nat.le_refl _
  | i + 1 => by have := nucB_le s x i; simp only [nucB]; split <;> omega

def hasTo (l : List Int) (c : Int) (k : Nat) : Bool := decide (c ∈ l.take k)
theorem hasTo_step {l : List Int} {c y : Int} {k : Nat} (h : l[k]? = some y) : hasTo l c (k + 1) = (hasTo l c k || (y == c)) := by
  unfold hasTo
  rw [Bool.eq_iff_iff, List.take_add_one, h]
  simp only [Option.toList_some, List.mem_append, List.mem_singleton, decide_eq_true_eq, Bool.or_eq_true, beq_iff_eq]
  exact or_congr Iff.rfl eq_comm
theorem hasTo_all {l : List Int} {c : Int} : hasTo l c l.length = hasB l c := by unfold hasTo hasB; simp

set_option maxHeartbeats 400000 in
theorem nuclei_any {a b c v : Value} {s : Snd} {x : List Int} {w : World} (h : SndR w a b c s) (hx : Rd tInt w v x) :
    Calls Try.prog 17 #[.agg #[a, b, c], v] w fun e w' => e = .returned (.int .i64 ((nucB s x x.length).1 : Nat)) ∧ Bw w w' := by
  have m1 := h.vow.len_le
  have m2 := hx.len_le
  obtain ⟨C, cc, rfl, _, _⟩ := h.vow.form
  obtain ⟨X, cx, rfl, _, _⟩ := hx.form
  have h' := h.vow.alloc (.cells #[.slice C s.vow.length cc, b, c] 25)
  have hx' := hx.alloc (.cells #[.slice C s.vow.length cc, b, c] 25)
  have hB : Bw w (w.alloc (.cells #[.slice C s.vow.length cc, b, c] 25)) := (Below.refl _ _).alloc (Nat.le_refl _) _
  clear h hx
  go_enter Try.func17, Try.ntmps17
  go_wp2_with fail
  go_loopw [5, 6, 7] (fun n bf i wr => ∃ k : Nat, k ≤ x.length ∧ i = .int .i64 k ∧ Dr (w.alloc (.cells #[.slice C s.vow.length cc, b, c] 25)) wr ∧ n = .int .i64 ((nucB s x k).1 : Nat) ∧ bf = .bool (nucB s x k).2) (fun _ _ i _ => x.length - (intOf i).toNat)
  case atStart => exact ⟨0, Nat.zero_le _, rfl, Dr.refl _, rfl, rfl⟩
  case round =>
    obtain ⟨k, hk, rfl, hd, rfl, rfl⟩ := hrel
    have hle := nucB_le s x k
    by_cases hlt : k < x.length
    · obtain ⟨bx, ox, y, rfl, hy, _, _, hcx⟩ := hx'.int hlt
      have hy' := Lib.hid (getD_of (d := 0) hy.out)
      obtain ⟨n0, rfl⟩ := hd
      have hstep : nucB s x (k + 1) = ((nucB s x k).1 + if hasB s.vow (x.getD k 0) && !(nucB s x k).2 then 1 else 0, hasB s.vow (x.getD k 0)) := rfl
      rw [hy'.out] at hstep
      have Hs := Lib.hid hstep
      clear hstep
      generalize (nucB s x k).1 = nk at *
      generalize (nucB s x k).2 = bk at *
      go_wp2_with fail
      go_loopw [8, 9] (fun v i wr => ∃ j : Nat, j ≤ s.vow.length ∧ i = .int .i64 j ∧ Dr (w.alloc (.cells #[.slice C s.vow.length cc, b, c] 25)) wr ∧ v = .bool (hasTo s.vow y j)) (fun _ i _ => s.vow.length - (intOf i).toNat)
      case atStart => exact ⟨0, Nat.zero_le _, rfl, ⟨n0, rfl⟩, rfl⟩
      case round =>
        obtain ⟨j, hj, rfl, ⟨n1, rfl⟩, rfl⟩ := hrel
        by_cases hjl : j < s.vow.length
        · obtain ⟨bv, ov, z, rfl, hz, _, _, hcz⟩ := h'.int hjl
          have Hz := Lib.hid (hasTo_step (c := y) hz.out)
          clear h' hx'
          cases p : hasTo s.vow y j <;> have Hp := Lib.hid p <;> clear p
          all_goals
            go_wp2
            go_quiet (fail)
            go_wp2
            refine ⟨⟨j + 1, hjl, by go_num, (Dr.refl _).drewN _, ?_⟩, by simp [intOf]; omega⟩
            rw [Hz.out, Hp.out]
            simp
        · have hj' : j = s.vow.length := by omega
          have e : hasTo s.vow y j = hasB s.vow y := by rw [hj', hasTo_all]
          rw [e]
          clear e hj'
          cases p : hasB s.vow y <;> have Hp := Lib.hid p <;> clear p
          · go_wp2
            exact ⟨⟨k + 1, hlt, by go_num, (Dr.refl _).drewN _, by rw [Hs.out, Hp.out]; simp, by rw [Hs.out, Hp.out]⟩, by simp [intOf]; omega⟩
          · cases bk
            · go_wp2
              exact ⟨⟨k + 1, hlt, by go_num, (Dr.refl _).drewN _, by rw [Hs.out, Hp.out]; simp, by rw [Hs.out, Hp.out]⟩, by simp [intOf]; omega⟩
            · go_wp2
              exact ⟨⟨k + 1, hlt, by go_num, (Dr.refl _).drewN _, by rw [Hs.out, Hp.out]; simp, by rw [Hs.out, Hp.out]⟩, by simp [intOf]; omega⟩
    · obtain ⟨n0, rfl⟩ := hd
      have : k = x.length := by omega
      subst this
      go_wp2
      go_ret
      exact ⟨rfl, hB.drewN _⟩
end Go.Proofs.Ytockfkmemoggiaa

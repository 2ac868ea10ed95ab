/- The contract of the statement's own 'begins'. Conditions: what the slice reads as. -/
import Derived.Test.YtfdmpbihepkjnaaDoorSB
import Derived.Test.YtfdmpbihepkjnaaDoorPlain7
import Derived.BigQuiet
namespace Go.Proofs.YtfdmpbihepkjnaaDoor
open Go.RowKit Go.Maps
open Pl

set_option maxRecDepth 100000 in
set_option maxHeartbeats 4000000 in
theorem begins_any {v : Value} {t : List ByteArray} {w : World} (h : Rd tStr w v t) :
    Calls Tryd.prog 24 #[v] w fun e w' => e = .returned (.bool (begB t)) ∧ Dr w w' := by
  have hm := h.len_le
  obtain ⟨A, c, rfl, _, _⟩ := h.form
  go_enter Tryd.func24, Tryd.ntmps24
  go_wp2_with fail
  go_loopw [3] (fun i wr => ∃ k : Nat, k ≤ t.length ∧ i = .int .i64 k ∧ Dr w wr ∧ Pre k (fun j => anyR t.length (fun m => beg2 t j m) = false)) (fun i _ => t.length - (intOf i).toNat)
  case atStart => exact ⟨0, Nat.zero_le _, rfl, Dr.refl _, Pre.zero⟩
  case round =>
    obtain ⟨i, hi, rfl, ⟨n0, rfl⟩, hpre⟩ := hrel
    by_cases hlt : i < t.length
    · have Hpre := Lib.hid hpre
      clear hpre
      go_wp2_with fail
      go_loopw [4] (fun m wr => ∃ k : Nat, k ≤ t.length ∧ m = .int .i64 k ∧ Dr w wr ∧ Pre k (fun j => beg2 t i j = false)) (fun m _ => t.length - (intOf m).toNat)
      case atStart => exact ⟨0, Nat.zero_le _, rfl, (Dr.refl _).drewN _, Pre.zero⟩
      case round =>
        obtain ⟨k, hk, rfl, ⟨n1, rfl⟩, hpre⟩ := hrel
        have Hpr2 := Lib.hid hpre
        clear hpre
        by_cases hlk : k < t.length
        · obtain ⟨b1, o1, yi, rfl, hyi, hyi1, hc1⟩ := h.str hlt
          obtain ⟨b2, o2, yk, e2, hyk, hyk1, hc2⟩ := h.str hlk
          injection e2 with e2
          injection e2 with e3 e4
          subst e3; subst e4
          have Gi := Lib.hid (getD_of (d := (⟨#[]⟩ : ByteArray)) hyi.out)
          have Gk := Lib.hid (getD_of (d := (⟨#[]⟩ : ByteArray)) hyk.out)
          by_cases c1 : i = k
          · have Hb : Hid (beg2 t i k = false) := by show _ = _; unfold beg2; rw [decide_eq_false (fun h => h c1)]; rfl
            have d1 : ((i : Int) != (k : Int)) = false := by simp [c1]
            clear c1
            go_wp2
            go_quiet (fail)
            go_wp2
            exact ⟨⟨k + 1, hlk, by go_num, (Dr.refl _).drewN _, Hpr2.out.snoc Hb.out⟩, by simp [intOf]; omega⟩
          · have d1 : ((i : Int) != (k : Int)) = true := by simp; omega
            by_cases c2 : yi.size ≤ yk.size
            · have c2' : (yi.size : Int) ≤ (yk.size : Int) := by omega
              have d2 : decide ((yi.size : Int) ≤ (yk.size : Int)) = true := decide_eq_true c2'
              by_cases c3 : yk.extract 0 yi.size = yi
              · have Hb : Hid (begB t = true) := anyR_true hlt (anyR_true hlk (by unfold beg2; rw [Gi.out, Gk.out, decide_eq_true c1, decide_eq_true c2, decide_eq_true c3]; rfl))
                have e1 : ((yk.extract 0 yi.size).toList == yi.toList) = true := by rw [c3]; exact str_eq yi
                go_wp2
                go_quiet (fail)
                go_wp2
                go_ret
                exact ⟨ret_b Hb.out.symm, ((Dr.refl _).drewN _).drewN _⟩
              · have Hb : Hid (beg2 t i k = false) := by show _ = _; unfold beg2; rw [Gi.out, Gk.out, decide_eq_false c3]; simp
                have e1 := str_ne c3
                go_wp2
                go_quiet (fail)
                go_wp2
                exact ⟨⟨k + 1, hlk, by go_num, (Dr.refl _).drewN _, Hpr2.out.snoc Hb.out⟩, by simp [intOf]; omega⟩
            · have d2 : decide ((yi.size : Int) ≤ (yk.size : Int)) = false := decide_eq_false (by omega)
              have Hb : Hid (beg2 t i k = false) := by show _ = _; unfold beg2; rw [Gi.out, Gk.out, decide_eq_false c2]; simp
              go_wp2
              go_quiet (fail)
              go_wp2
              exact ⟨⟨k + 1, hlk, by go_num, (Dr.refl _).drewN _, Hpr2.out.snoc Hb.out⟩, by simp [intOf]; omega⟩
        · have Hb : Hid (anyR t.length (fun m => beg2 t i m) = false) := anyR_false fun j hj => Hpr2.out j (by omega)
          go_wp2_with fail
          exact ⟨⟨i + 1, hlt, by go_num, (Dr.refl _).drewN _, Hpre.out.snoc Hb.out⟩, by simp [intOf]; omega⟩
    · have Hb : Hid (begB t = false) := anyR_false fun j hj => hpre j (by omega)
      go_wp2_with fail
      go_ret
      exact ⟨ret_b Hb.out.symm, (Dr.refl _).drewN _⟩
end Go.Proofs.YtfdmpbihepkjnaaDoor

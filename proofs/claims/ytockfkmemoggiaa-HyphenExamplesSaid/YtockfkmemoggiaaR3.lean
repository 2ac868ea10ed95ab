/- The contracts of the reference's comparison of words and of lists of words. -/
import Derived.Test.YtockfkmemoggiaaR1
namespace Go.Proofs.Ytockfkmemoggiaa
open Go.RowKit
open Pl

theorem compare_any {v u : Value} {xs ys : List Int} {w : World} (h : Rd tInt w v xs) (h' : Rd tInt w u ys) :
    Calls Try.prog 31 #[v, u] w fun e w' => e = .returned (.int .i64 (cmpL xs ys)) ∧ Dr w w' := by
  have hm := h.len_le
  have hm' := h'.len_le
  obtain ⟨A, c, rfl, _, _⟩ := h.form
  obtain ⟨A', c', rfl, _, _⟩ := h'.form
  by_cases hl : xs.length = ys.length
  · have hle : xs.length ≤ ys.length := by omega
    have hge : ys.length ≤ xs.length := by omega
    have Hl := Lib.hid hl
    have hne : ((xs.length : Int) != (ys.length : Int)) = false := by rw [hl]; simp
    clear hl
    go_enter Try.func31, Try.ntmps31
    go_wp2
    go_loopw [5] (fun i wr => ∃ k : Nat, k ≤ xs.length ∧ i = .int .i64 k ∧ Dr w wr ∧ Pre k (fun j => xs[j]? = ys[j]?)) (fun i _ => xs.length - (intOf i).toNat)
    case atStart => exact ⟨0, Nat.zero_le _, rfl, Dr.refl _, Pre.zero⟩
    case round =>
      obtain ⟨k, hk, rfl, hd, hno⟩ := hrel
      by_cases hlt : k < xs.length
      · obtain ⟨b, off, x, rfl, hx, _, _, hc⟩ := (h.drd hd).int hlt
        obtain ⟨b', off', y, rfl, hy, _, _, hc'⟩ := (h'.drd hd).int (k := k) (by omega)
        clear h h'
        have hlt' : k < ys.length := by omega
        have hlex := Lib.hid (lexC_at k xs ys hno hx.out hy.out)
        by_cases c1 : x < y
        · go_wp2
          go_quiet (fail)
          go_wp2
          go_ret
          exact ⟨ret_i (by unfold cmpL; rw [if_pos Hl.out, hlex.out, if_pos c1]), hd.drewN _⟩
        by_cases c2 : y < x
        · go_wp2
          go_quiet (fail)
          go_wp2
          go_quiet (fail)
          go_wp2
          go_ret
          exact ⟨ret_i (by unfold cmpL; rw [if_pos Hl.out, hlex.out, if_neg (by omega), if_pos c2]), (hd.drewN _).drewN _⟩
        go_wp2
        go_quiet (fail)
        go_wp2
        go_quiet (fail)
        go_wp2
        refine ⟨⟨k + 1, hlt, by go_num, hd.drewN _, hno.snoc ?_⟩, by simp [intOf]; omega⟩
        rw [hx.out, hy.out]
        have : x = y := by omega
        rw [this]
      · go_wp2
        go_ret
        refine ⟨ret_i ?_, hd⟩
        have : xs = ys := by
          apply List.ext_getElem?
          intro j
          by_cases hj : j < xs.length
          · exact hno j (by omega)
          · rw [List.getElem?_eq_none (by omega), List.getElem?_eq_none (by omega)]
        exact (cmpL_zero.2 this).symm
  · have hne : ((xs.length : Int) != (ys.length : Int)) = true := by simpa using by omega
    have Hl := Lib.hid hl
    clear hl
    by_cases c1 : xs.length < ys.length
    · go_enter Try.func31, Try.ntmps31
      go_wp2
      go_ret
      exact ⟨ret_i (by unfold cmpL; rw [if_neg Hl.out, if_pos c1]), Dr.refl _⟩
    · go_enter Try.func31, Try.ntmps31
      go_wp2
      go_ret
      exact ⟨ret_i (by unfold cmpL; rw [if_neg Hl.out, if_neg (by omega)]), Dr.refl _⟩

theorem sameWords_any {v u : Value} {xs ys : List (List Int)} {w : World} (h : Rd (tSlice tInt) w v xs) (h' : Rd (tSlice tInt) w u ys) :
    Calls Try.prog 15 #[v, u] w fun e w' => e = .returned (.bool (sameW xs ys)) ∧ Dr w w' := by
  have hm := h.len_le
  have hm' := h'.len_le
  obtain ⟨A, c, rfl, _, _⟩ := h.form
  obtain ⟨A', c', rfl, _, _⟩ := h'.form
  by_cases hl : xs.length = ys.length
  · have hle : xs.length ≤ ys.length := by omega
    have hge : ys.length ≤ xs.length := by omega
    have Hl := Lib.hid hl
    have hne : ((xs.length : Int) != (ys.length : Int)) = false := by rw [hl]; simp
    clear hl
    go_enter Try.func15, Try.ntmps15
    go_wp2
    go_loopw [5] (fun i wr => ∃ k : Nat, k ≤ xs.length ∧ i = .int .i64 k ∧ Dr w wr ∧ Pre k (fun j => xs[j]? = ys[j]?)) (fun i _ => xs.length - (intOf i).toNat)
    case atStart => exact ⟨0, Nat.zero_le _, rfl, Dr.refl _, Pre.zero⟩
    case round =>
      obtain ⟨k, hk, rfl, hd, hno⟩ := hrel
      by_cases hlt : k < xs.length
      · obtain ⟨b, off, p, x, rfl, hx, hp, hc⟩ := (h.drd hd).sl hlt
        obtain ⟨b', off', q, y, rfl, hy, hq, hc'⟩ := (h'.drd hd).sl (k := k) (by omega)
        clear h h'
        have hlt' : k < ys.length := by omega
        go_wp2
        go_quiet ((go_at_call 31; exact Dr.quiet (compare_any (hp.dn _) (hq.dn _))))
        go_wp2
        · go_ret
          have h : (cmpL x y != 0) = true := by assumption
          refine ⟨ret_b ?_, hd.drewN _⟩
          unfold sameW
          rw [eq_comm, decide_eq_false_iff_not]
          rintro rfl
          have e := hx.out.symm.trans hy.out
          simp at e; subst e
          rw [cmpL_zero.2 rfl] at h; simp at h
        · have h : (cmpL x y != 0) = false := by assumption
          refine ⟨⟨k + 1, hlt, by go_num, hd.drewN _, hno.snoc ?_⟩, by simp [intOf]; omega⟩
          have : x = y := cmpL_zero.1 (by simpa using h)
          rw [hx.out, hy.out, this]
      · go_wp2
        go_ret
        refine ⟨ret_b ?_, hd⟩
        unfold sameW
        rw [eq_comm, decide_eq_true_iff]
        apply List.ext_getElem?
        intro j
        by_cases hj : j < xs.length
        · exact hno j (by omega)
        · rw [List.getElem?_eq_none (by omega), List.getElem?_eq_none (by omega)]
  · have hne : ((xs.length : Int) != (ys.length : Int)) = true := by simpa using by omega
    have Hl := Lib.hid hl
    clear hl
    go_enter Try.func15, Try.ntmps15
    go_wp2
    go_ret
    exact ⟨ret_b (by unfold sameW; rw [eq_comm, decide_eq_false_iff_not]; intro e; exact Hl.out (by rw [e])), Dr.refl _⟩
end Go.Proofs.Ytockfkmemoggiaa

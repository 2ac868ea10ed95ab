/- The contracts of 'position', 'SameInts', 'SameList', 'large'. Conditions: what the slices read as. -/
import Derived.Test.YtfdmpbihepkjnaaDoorS3
import Derived.Deep.RegionHeld3
namespace Go.Proofs.YtfdmpbihepkjnaaDoor
open Go.RowKit
open Pl

theorem toList_inj {x y : ByteArray} (h : x.toList = y.toList) : x = y := by
  rw [Lib.toList_data, Lib.toList_data] at h
  obtain ⟨⟨a⟩⟩ := x
  obtain ⟨⟨b⟩⟩ := y
  simp at h
  rw [h]
theorem str_ne {x y : ByteArray} (h : ¬ x = y) : (x.toList == y.toList) = false := by
  simp only [beq_eq_false_iff_ne, ne_eq]
  exact fun e => h (toList_inj e)
theorem str_eq (x : ByteArray) : (x.toList == x.toList) = true := by simp

theorem position_any {v : Value} {t : List ByteArray} {x : ByteArray} {w : World} (h : Rd tStr w v t) :
    Calls Tryd.prog 32 #[v, .string x] w fun e w' => e = .returned (.int .i64 (posI t x)) ∧ w' = w := by
  have hm := h.len_le
  obtain ⟨A, c, rfl, _, _⟩ := h.form
  go_enter Tryd.func32, Tryd.ntmps32
  go_wp2_with fail
  go_loopw [5] (fun i wr => ∃ k : Nat, k ≤ t.length ∧ i = .int .i64 k ∧ wr = w ∧ Pre k (fun j => t.getD j ⟨#[]⟩ ≠ x)) (fun i _ => t.length - (intOf i).toNat)
  case atStart => exact ⟨0, Nat.zero_le _, rfl, rfl, Pre.zero⟩
  case round =>
    obtain ⟨k, hk, rfl, rfl, hpre⟩ := hrel
    by_cases hlt : k < t.length
    · obtain ⟨b, off, y, rfl, hy, _, hc⟩ := h.str hlt
      by_cases e : y = x
      · subst e
        have hp := Lib.hid (posI_some hy.out hpre)
        have e1 := str_eq y
        clear hpre
        go_wp2_with fail
        go_ret
        exact ⟨ret_i hp.out.symm, rfl⟩
      · have e1 := str_ne e
        have Hn : Hid (t.getD k ⟨#[]⟩ ≠ x) := by show _ ≠ _; rw [getD_of hy.out]; exact e
        go_wp2_with fail
        exact ⟨⟨k + 1, hlt, by go_num, by first | rfl | trivial, hpre.snoc Hn.out⟩, by simp [intOf]; omega⟩
    · have hp : posI t x = -1 := posI_none fun y hy e => by
        obtain ⟨j, hj⟩ := List.mem_iff_getElem?.1 hy
        have hjl := (List.getElem?_eq_some_iff.1 hj).1
        exact hpre j (by omega) (by rw [getD_of hj]; exact e)
      have Hp := Lib.hid hp
      clear hp
      go_wp2_with fail
      go_ret
      exact ⟨ret_i Hp.out.symm, rfl⟩

theorem large_any {v : Value} {t : List ByteArray} {w : World} (h : Rd tStr w v t) :
    Calls Tryd.prog 11 #[v] w fun e w' => e = .returned (.bool (decide (600 < t.length))) ∧ w' = w := by
  obtain ⟨A, c, rfl, _, _⟩ := h.form
  by_cases h6 : 600 < t.length
  · rw [decide_eq_true h6]
    go_enter Tryd.func11, Tryd.ntmps11
    go_wp2_with fail
    go_ret
    exact ⟨by simp; omega, rfl⟩
  · rw [decide_eq_false h6]
    go_enter Tryd.func11, Tryd.ntmps11
    go_wp2_with fail
    go_ret
    exact ⟨by simp; omega, rfl⟩

def same {α : Type} [DecidableEq α] (a b : List α) : Bool := decide (a = b)

theorem sameInts_any {v u : Value} {xs ys : List Int} {w : World} (h : Rd tInt w v xs) (h' : Rd tInt w u ys) :
    Calls Tryd.prog 21 #[v, u] w fun e w' => e = .returned (.bool (same xs ys)) ∧ Dr w w' := by
  have hm := h.len_le
  have hm' := h'.len_le
  obtain ⟨A, c, rfl, _, _⟩ := h.form
  obtain ⟨A', c', rfl, _, _⟩ := h'.form
  by_cases hl : xs.length = ys.length
  · have hle : xs.length ≤ ys.length := by omega
    have hge : ys.length ≤ xs.length := by omega
    have Hl := Lib.hid hl
    have hne : ((xs.length : Int) != (ys.length : Int)) = false := by rw [hl]; simp
    clear hl
    go_enter Tryd.func21, Tryd.ntmps21
    go_wp2
    go_loopw [5] (fun i wr => ∃ k : Nat, k ≤ xs.length ∧ i = .int .i64 k ∧ Dr w wr ∧ Pre k (fun j => xs[j]? = ys[j]?)) (fun i _ => xs.length - (intOf i).toNat)
    case atStart => exact ⟨0, Nat.zero_le _, rfl, Dr.refl _, Pre.zero⟩
    case round =>
      obtain ⟨k, hk, rfl, hd, hno⟩ := hrel
      by_cases hlt : k < xs.length
      · obtain ⟨b, off, x, rfl, hx, _, _, hc⟩ := (h.drd hd).int hlt
        obtain ⟨b', off', y, rfl, hy, _, _, hc'⟩ := (h'.drd hd).int (k := k) (by omega)
        clear h h'
        have hlt' : k < ys.length := by omega
        go_wp2
        go_quiet (fail)
        go_wp2
        · go_ret
          have h : (x != y) = true := by assumption
          refine ⟨ret_b ?_, hd.drewN _⟩
          unfold same
          rw [eq_comm, decide_eq_false_iff_not]
          rintro rfl
          have e := hx.out.symm.trans hy.out
          simp at e; subst e; simp at h
        · have h : (x != y) = false := by assumption
          refine ⟨⟨k + 1, hlt, by go_num, hd.drewN _, hno.snoc ?_⟩, by simp [intOf]; omega⟩
          rw [hx.out, hy.out]
          simpa using h
      · go_wp2
        go_ret
        refine ⟨ret_b ?_, hd⟩
        unfold same
        rw [eq_comm, decide_eq_true_iff]
        apply List.ext_getElem?
        intro j
        by_cases hj : j < xs.length
        · exact hno j (by omega)
        · rw [List.getElem?_eq_none (by omega), List.getElem?_eq_none (by omega)]
  · have hne : ((xs.length : Int) != (ys.length : Int)) = true := by simpa using by omega
    have Hl := Lib.hid hl
    clear hl
    go_enter Tryd.func21, Tryd.ntmps21
    go_wp2
    go_ret
    exact ⟨ret_b (by unfold same; rw [eq_comm, decide_eq_false_iff_not]; intro e; exact Hl.out (by rw [e])), Dr.refl _⟩

theorem sameList_any {v u : Value} {xs ys : List ByteArray} {w : World} (h : Rd tStr w v xs) (h' : Rd tStr w u ys) :
    Calls Tryd.prog 27 #[v, u] w fun e w' => e = .returned (.bool (same xs ys)) ∧ Dr w w' := by
  have hm := h.len_le
  have hm' := h'.len_le
  obtain ⟨A, c, rfl, _, _⟩ := h.form
  obtain ⟨A', c', rfl, _, _⟩ := h'.form
  by_cases hl : xs.length = ys.length
  · have hle : xs.length ≤ ys.length := by omega
    have hge : ys.length ≤ xs.length := by omega
    have Hl := Lib.hid hl
    have hne : ((xs.length : Int) != (ys.length : Int)) = false := by rw [hl]; simp
    clear hl
    go_enter Tryd.func27, Tryd.ntmps27
    go_wp2
    go_loopw [5] (fun i wr => ∃ k : Nat, k ≤ xs.length ∧ i = .int .i64 k ∧ Dr w wr ∧ Pre k (fun j => xs[j]? = ys[j]?)) (fun i _ => xs.length - (intOf i).toNat)
    case atStart => exact ⟨0, Nat.zero_le _, rfl, Dr.refl _, Pre.zero⟩
    case round =>
      obtain ⟨k, hk, rfl, hd, hno⟩ := hrel
      by_cases hlt : k < xs.length
      · obtain ⟨b, off, x, rfl, hx, _, hc⟩ := (h.drd hd).str hlt
        obtain ⟨b', off', y, rfl, hy, _, hc'⟩ := (h'.drd hd).str (k := k) (by omega)
        clear h h'
        have hlt' : k < ys.length := by omega
        go_wp2
        go_quiet (fail)
        go_wp2
        · go_ret
          have h : (x.toList != y.toList) = true := by assumption
          refine ⟨ret_b ?_, hd.drewN _⟩
          unfold same
          rw [eq_comm, decide_eq_false_iff_not]
          rintro rfl
          have e := hx.out.symm.trans hy.out
          simp at e; subst e; simp at h
        · have h : (x.toList != y.toList) = false := by assumption
          refine ⟨⟨k + 1, hlt, by go_num, hd.drewN _, hno.snoc ?_⟩, by simp [intOf]; omega⟩
          rw [hx.out, hy.out]
          congr 1
          exact toList_inj (by simpa using h)
      · go_wp2
        go_ret
        refine ⟨ret_b ?_, hd⟩
        unfold same
        rw [eq_comm, decide_eq_true_iff]
        apply List.ext_getElem?
        intro j
        by_cases hj : j < xs.length
        · exact hno j (by omega)
        · rw [List.getElem?_eq_none (by omega), List.getElem?_eq_none (by omega)]
  · have hne : ((xs.length : Int) != (ys.length : Int)) = true := by simpa using by omega
    have Hl := Lib.hid hl
    clear hl
    go_enter Tryd.func27, Tryd.ntmps27
    go_wp2
    go_ret
    exact ⟨ret_b (by unfold same; rw [eq_comm, decide_eq_false_iff_not]; intro e; exact Hl.out (by rw [e])), Dr.refl _⟩

end Go.Proofs.YtfdmpbihepkjnaaDoor

/- The contracts of 'sameTags'. Conditions: what the slices read as. -/
import Derived.Test.YthecmbmidoagaaaDoorS3
import Derived.Deep.RegionHeld3
namespace Go.Proofs.YthecmbmidoagaaaDoor
open Go.RowKit
open Pl

theorem toList_inj {x y : ByteArray} (h : x.toList = y.toList) : x = y := by
  rw [Lib.toList_data, Lib.toList_data] at h
  obtain ⟨⟨a⟩⟩ := x
  obtain ⟨⟨b⟩⟩ := y
  simp at h
  rw [h]
theorem str_ne {x y : ByteArray} (h : ¬ x = y) : (x.toList == y.toList) = false := by
  simp only [beq_eq_false_iff_ne, ne_eq]
  exact fun e => h (toList_inj e)
theorem str_eq (x : ByteArray) : (x.toList == x.toList) = true := by simp

def same {α : Type} [DecidableEq α] (a b : List α) : Bool := decide (a = b)

theorem sameTags_any {v u : Value} {xs ys : List ByteArray} {w : World} (h : Rd tStr w v xs) (h' : Rd tStr w u ys) :
    Calls Tryd.prog 43 #[v, u] w fun e w' => e = .returned (.bool (same xs ys)) ∧ Dr w w' := by
  have hm := h.len_le
  have hm' := h'.len_le
  obtain ⟨A, c, rfl, _, _⟩ := h.form
  obtain ⟨A', c', rfl, _, _⟩ := h'.form
  by_cases hl : xs.length = ys.length
  · have hle : xs.length ≤ ys.length := by omega
    have hge : ys.length ≤ xs.length := by omega
    have Hl := Lib.hid hl
    have hne : ((xs.length : Int) != (ys.length : Int)) = false := by rw [hl]; simp
    clear hl
    go_enter Tryd.func43, Tryd.ntmps43
    go_wp2
    go_loopw [5] (fun i wr => ∃ k : Nat, k ≤ xs.length ∧ i = .int .i64 k ∧ Dr w wr ∧ Pre k (fun j => xs[j]? = ys[j]?)) (fun i _ => xs.length - (intOf i).toNat)
    case atStart => exact ⟨0, Nat.zero_le _, rfl, Dr.refl _, Pre.zero⟩
    case round =>
      obtain ⟨k, hk, rfl, hd, hno⟩ := hrel
      by_cases hlt : k < xs.length
      · obtain ⟨b, off, x, rfl, hx, _, hc⟩ := (h.drd hd).str hlt
        obtain ⟨b', off', y, rfl, hy, _, hc'⟩ := (h'.drd hd).str (k := k) (by omega)
        clear h h'
        have hlt' : k < ys.length := by omega
        go_wp2
        go_quiet (fail)
        go_wp2
        · go_ret
          have h : (x.toList != y.toList) = true := by assumption
          refine ⟨ret_b ?_, hd.drewN _⟩
          unfold same
          rw [eq_comm, decide_eq_false_iff_not]
          rintro rfl
          have e := hx.out.symm.trans hy.out
          simp at e; subst e; simp at h
        · have h : (x.toList != y.toList) = false := by assumption
          refine ⟨⟨k + 1, hlt, by go_num, hd.drewN _, hno.snoc ?_⟩, by simp [intOf]; omega⟩
          rw [hx.out, hy.out]
          congr 1
          exact toList_inj (by simpa using h)
      · go_wp2
        go_ret
        refine ⟨ret_b ?_, hd⟩
        unfold same
        rw [eq_comm, decide_eq_true_iff]
        apply List.ext_getElem?
        intro j
        by_cases hj : j < xs.length
        · exact hno j (by omega)
        · rw [List.getElem?_eq_none (by omega), List.getElem?_eq_none (by omega)]
  · have hne : ((xs.length : Int) != (ys.length : Int)) = true := by simpa using by omega
    have Hl := Lib.hid hl
    clear hl
    go_enter Tryd.func43, Tryd.ntmps43
    go_wp2
    go_ret
    exact ⟨ret_b (by unfold same; rw [eq_comm, decide_eq_false_iff_not]; intro e; exact Hl.out (by rw [e])), Dr.refl _⟩

end Go.Proofs.YthecmbmidoagaaaDoor

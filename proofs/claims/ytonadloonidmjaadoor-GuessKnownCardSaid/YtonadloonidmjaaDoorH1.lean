/- The contracts of the reference's SameInts and Compare, of the law's strings and large. Conditions: what the slices read as. -/
import Derived.Test.YtonadloonidmjaaDoorGQ
import Derived.Test.YtonadloonidmjaaDoorStruct
import Derived.Test.YtonadloonidmjaaDoorProg
import Derived.Deep.RegionHeld3
import Derived.BigQuiet
import Derived.Lib.Hide
namespace Go.Proofs.YtonadloonidmjaaDoor
open Go.RowKit
open Pl

theorem toList_inj {x y : ByteArray} (h : x.toList = y.toList) : x = y := by
  rw [Lib.toList_data, Lib.toList_data] at h
  obtain ⟨⟨a⟩⟩ := x
  obtain ⟨⟨b⟩⟩ := y
  simp at h
  rw [h]
theorem str_ne {x y : ByteArray} (h : ¬ x = y) : (x.toList == y.toList) = false := by
  simp only [beq_eq_false_iff_ne, ne_eq]
  exact fun e => h (toList_inj e)
theorem str_eq (x : ByteArray) : (x.toList == x.toList) = true := by simp

def same {α : Type} [DecidableEq α] (a b : List α) : Bool := decide (a = b)

theorem sameInts_any {v u : Value} {xs ys : List Int} {w : World} (h : Rd tInt w v xs) (h' : Rd tInt w u ys) :
    Calls Tryd.prog 20 #[v, u] w fun e w' => e = .returned (.bool (same xs ys)) ∧ Dr w w' := by
  have hm := h.len_le
  have hm' := h'.len_le
  obtain ⟨A, c, rfl, _, _⟩ := h.form
  obtain ⟨A', c', rfl, _, _⟩ := h'.form
  by_cases hl : xs.length = ys.length
  · have hle : xs.length ≤ ys.length := by omega
    have hge : ys.length ≤ xs.length := by omega
    have Hl := Lib.hid hl
    have hne : ((xs.length : Int) != (ys.length : Int)) = false := by rw [hl]; simp
    clear hl
    go_enter Tryd.func20, Tryd.ntmps20
    go_wp2
    go_loopw [5] (fun i wr => ∃ k : Nat, k ≤ xs.length ∧ i = .int .i64 k ∧ Dr w wr ∧ Pre k (fun j => xs[j]? = ys[j]?)) (fun i _ => xs.length - (intOf i).toNat)
    case atStart => exact ⟨0, Nat.zero_le _, rfl, Dr.refl _, Pre.zero⟩
    case round =>
      obtain ⟨k, hk, rfl, hd, hno⟩ := hrel
      by_cases hlt : k < xs.length
      · obtain ⟨b, off, x, rfl, hx, _, _, hc⟩ := (h.drd hd).int hlt
        obtain ⟨b', off', y, rfl, hy, _, _, hc'⟩ := (h'.drd hd).int (k := k) (by omega)
        clear h h'
        have hlt' : k < ys.length := by omega
        go_wp2
        go_quiet (fail)
        go_wp2
        · go_ret
          have h : (x != y) = true := by assumption
          refine ⟨ret_b ?_, hd.drewN _⟩
          unfold same
          rw [eq_comm, decide_eq_false_iff_not]
          rintro rfl
          have e := hx.out.symm.trans hy.out
          simp at e; subst e; simp at h
        · have h : (x != y) = false := by assumption
          refine ⟨⟨k + 1, hlt, by go_num, hd.drewN _, hno.snoc ?_⟩, by simp [intOf]; omega⟩
          rw [hx.out, hy.out]
          simpa using h
      · go_wp2
        go_ret
        refine ⟨ret_b ?_, hd⟩
        unfold same
        rw [eq_comm, decide_eq_true_iff]
        apply List.ext_getElem?
        intro j
        by_cases hj : j < xs.length
        · exact hno j (by omega)
        · rw [List.getElem?_eq_none (by omega), List.getElem?_eq_none (by omega)]
  · have hne : ((xs.length : Int) != (ys.length : Int)) = true := by simpa using by omega
    have Hl := Lib.hid hl
    clear hl
    go_enter Tryd.func20, Tryd.ntmps20
    go_wp2
    go_ret
    exact ⟨ret_b (by unfold same; rw [eq_comm, decide_eq_false_iff_not]; intro e; exact Hl.out (by rw [e])), Dr.refl _⟩

theorem sameList_any {v u : Value} {xs ys : List ByteArray} {w : World} (h : Rd tStr w v xs) (h' : Rd tStr w u ys) :
    Calls Tryd.prog 17 #[v, u] w fun e w' => e = .returned (.bool (same xs ys)) ∧ Dr w w' := by
  have hm := h.len_le
  have hm' := h'.len_le
  obtain ⟨A, c, rfl, _, _⟩ := h.form
  obtain ⟨A', c', rfl, _, _⟩ := h'.form
  by_cases hl : xs.length = ys.length
  · have hle : xs.length ≤ ys.length := by omega
    have hge : ys.length ≤ xs.length := by omega
    have Hl := Lib.hid hl
    have hne : ((xs.length : Int) != (ys.length : Int)) = false := by rw [hl]; simp
    clear hl
    go_enter Tryd.func17, Tryd.ntmps17
    go_wp2
    go_loopw [5] (fun i wr => ∃ k : Nat, k ≤ xs.length ∧ i = .int .i64 k ∧ Dr w wr ∧ Pre k (fun j => xs[j]? = ys[j]?)) (fun i _ => xs.length - (intOf i).toNat)
    case atStart => exact ⟨0, Nat.zero_le _, rfl, Dr.refl _, Pre.zero⟩
    case round =>
      obtain ⟨k, hk, rfl, hd, hno⟩ := hrel
      by_cases hlt : k < xs.length
      · obtain ⟨b, off, x, rfl, hx, _, hc⟩ := (h.drd hd).str hlt
        obtain ⟨b', off', y, rfl, hy, _, hc'⟩ := (h'.drd hd).str (k := k) (by omega)
        clear h h'
        have hlt' : k < ys.length := by omega
        go_wp2
        go_quiet (fail)
        go_wp2
        · go_ret
          have h : (x.toList != y.toList) = true := by assumption
          refine ⟨ret_b ?_, hd.drewN _⟩
          unfold same
          rw [eq_comm, decide_eq_false_iff_not]
          rintro rfl
          have e := hx.out.symm.trans hy.out
          simp at e; subst e; simp at h
        · have h : (x.toList != y.toList) = false := by assumption
          refine ⟨⟨k + 1, hlt, by go_num, hd.drewN _, hno.snoc ?_⟩, by simp [intOf]; omega⟩
          rw [hx.out, hy.out]
          congr 1
          exact toList_inj (by simpa using h)
      · go_wp2
        go_ret
        refine ⟨ret_b ?_, hd⟩
        unfold same
        rw [eq_comm, decide_eq_true_iff]
        apply List.ext_getElem?
        intro j
        by_cases hj : j < xs.length
        · exact hno j (by omega)
        · rw [List.getElem?_eq_none (by omega), List.getElem?_eq_none (by omega)]
  · have hne : ((xs.length : Int) != (ys.length : Int)) = true := by simpa using by omega
    have Hl := Lib.hid hl
    clear hl
    go_enter Tryd.func17, Tryd.ntmps17
    go_wp2
    go_ret
    exact ⟨ret_b (by unfold same; rw [eq_comm, decide_eq_false_iff_not]; intro e; exact Hl.out (by rw [e])), Dr.refl _⟩

theorem rcompare_any {v u : Value} {xs ys : List Int} {w : World} (h : Rd tInt w v xs) (h' : Rd tInt w u ys) :
    Calls Tryd.prog 83 #[v, u] w fun e w' => e = .returned (.int .i64 (cmpL xs ys)) ∧ Dr w w' := by
  have hm := h.len_le
  have hm' := h'.len_le
  obtain ⟨A, c, rfl, _, _⟩ := h.form
  obtain ⟨A', c', rfl, _, _⟩ := h'.form
  by_cases hl : xs.length = ys.length
  · have hle : xs.length ≤ ys.length := by omega
    have hge : ys.length ≤ xs.length := by omega
    have Hl := Lib.hid hl
    have hne : ((xs.length : Int) != (ys.length : Int)) = false := by rw [hl]; simp
    clear hl
    go_enter Tryd.func83, Tryd.ntmps83
    go_wp2
    go_loopw [5] (fun i wr => ∃ k : Nat, k ≤ xs.length ∧ i = .int .i64 k ∧ Dr w wr ∧ Pre k (fun j => xs[j]? = ys[j]?)) (fun i _ => xs.length - (intOf i).toNat)
    case atStart => exact ⟨0, Nat.zero_le _, rfl, Dr.refl _, Pre.zero⟩
    case round =>
      obtain ⟨k, hk, rfl, hd, hno⟩ := hrel
      by_cases hlt : k < xs.length
      · obtain ⟨b, off, x, rfl, hx, _, _, hc⟩ := (h.drd hd).int hlt
        obtain ⟨b', off', y, rfl, hy, _, _, hc'⟩ := (h'.drd hd).int (k := k) (by omega)
        clear h h'
        have hlt' : k < ys.length := by omega
        have hlex := Lib.hid (lexC_at k xs ys hno hx.out hy.out)
        by_cases c1 : x < y
        · go_wp2
          go_quiet (fail)
          go_wp2
          go_ret
          exact ⟨ret_i (by unfold cmpL; rw [if_pos Hl.out, hlex.out, if_pos c1]), hd.drewN _⟩
        by_cases c2 : y < x
        · go_wp2
          go_quiet (fail)
          go_wp2
          go_quiet (fail)
          go_wp2
          go_ret
          exact ⟨ret_i (by unfold cmpL; rw [if_pos Hl.out, hlex.out, if_neg (by omega), if_pos c2]), (hd.drewN _).drewN _⟩
        go_wp2
        go_quiet (fail)
        go_wp2
        go_quiet (fail)
        go_wp2
        refine ⟨⟨k + 1, hlt, by go_num, hd.drewN _, hno.snoc ?_⟩, by simp [intOf]; omega⟩
        rw [hx.out, hy.out]
        have : x = y := by omega
        rw [this]
      · go_wp2
        go_ret
        refine ⟨ret_i ?_, hd⟩
        have : xs = ys := by
          apply List.ext_getElem?
          intro j
          by_cases hj : j < xs.length
          · exact hno j (by omega)
          · rw [List.getElem?_eq_none (by omega), List.getElem?_eq_none (by omega)]
        exact (cmpL_zero.2 this).symm
  · have hne : ((xs.length : Int) != (ys.length : Int)) = true := by simpa using by omega
    have Hl := Lib.hid hl
    clear hl
    by_cases c1 : xs.length < ys.length
    · go_enter Tryd.func83, Tryd.ntmps83
      go_wp2
      go_ret
      exact ⟨ret_i (by unfold cmpL; rw [if_neg Hl.out, if_pos c1]), Dr.refl _⟩
    · go_enter Tryd.func83, Tryd.ntmps83
      go_wp2
      go_ret
      exact ⟨ret_i (by unfold cmpL; rw [if_neg Hl.out, if_neg (by omega)]), Dr.refl _⟩

/-- A known word: its symbols, its tags. -/
def tKn : Ty Kn := tPair (tSlice tInt) tStr
theorem kn_rep {w : World} {D : Nat → Prop} {cs : List Value} {k : Kn} (h : tKn.rep w D cs k) : ∃ u, cs = [u, .string k.2] ∧ Sl tInt w D u k.1 ∧ k.2.size ≤ maxLen := by
  obtain ⟨c1, c2, rfl, ⟨u, rfl, hu⟩, ⟨rfl, h3⟩⟩ := h
  exact ⟨u, rfl, hu, h3⟩
theorem kn_mk {w : World} {D : Nat → Prop} {u : Value} {k : Kn} (h1 : Sl tInt w D u k.1) (h2 : k.2.size ≤ maxLen) : tKn.rep w D [u, .string k.2] k :=
  ⟨[u], [.string k.2], rfl, ⟨u, rfl, h1⟩, ⟨rfl, h2⟩⟩
section
variable {D : Nat → Prop} {w : World} {A : Option Addr} {n c k : Nat}
theorem Sl.kn {xs : List Kn} (h : Sl tKn w D (.slice A n c) xs) (hk : k < xs.length) :
    ∃ b off x u, A = some ⟨b, off, none⟩ ∧ Hid (xs[k]? = some x) ∧ x.2.size ≤ 9223372036854775807 ∧ Sl tInt w D u x.1 ∧ w.cell? ⟨b, off + k * 2, none⟩ = some u ∧ w.cell? ⟨b, off + k * 2 + 1, none⟩ = some (.string x.2) := by
  obtain ⟨b, off, x, cs, h1, h2, _, h3, h4⟩ := h.elem hk
  obtain ⟨u, rfl, h5, h6⟩ := kn_rep h3
  exact ⟨b, off, x, u, h1, h2, by simpa [maxLen] using h6, h5, h4 0 _ rfl, h4 1 _ rfl⟩
end
/-- Known words that are more than a statement looks at. -/
def bigK (k : Kn) : Bool := decide (250 < k.1.length) || decide (300 < k.2.size)
def largeB (l : List Kn) : Bool := decide (60 < l.length) || l.any bigK
theorem large_any {v : Value} {l : List Kn} {w : World} (h : Rd tKn w v l) :
    Calls Tryd.prog 8 #[v] w fun e w' => e = .returned (.bool (largeB l)) ∧ Dr w w' := by
  have hm := h.len_le
  obtain ⟨A, c, rfl, _, _⟩ := h.form
  by_cases h6 : 60 < l.length
  · have e : Hid (largeB l = true) := by unfold largeB; rw [decide_eq_true h6]; rfl
    rw [e.out]
    go_enter Tryd.func8, Tryd.ntmps8
    go_wp2_with fail
    go_ret
    exact ⟨rfl, Dr.refl _⟩
  · have e : Hid (largeB l = l.any bigK) := by unfold largeB; rw [decide_eq_false h6]; rfl
    rw [e.out]
    have h6' : l.length ≤ 60 := by omega
    go_enter Tryd.func8, Tryd.ntmps8
    go_wp2
    go_loopw [3] (fun i wr => ∃ k : Nat, k ≤ l.length ∧ i = .int .i64 k ∧ Dr w wr ∧ Pre k (fun j => ∀ y, l[j]? = some y → bigK y = false)) (fun i _ => l.length - (intOf i).toNat)
    case atStart => exact ⟨0, Nat.zero_le _, rfl, Dr.refl _, Pre.zero⟩
    case round =>
      obtain ⟨k, hk, rfl, hd, hno⟩ := hrel
      by_cases hlt : k < l.length
      · obtain ⟨bb, off, y, u, rfl, hy, hs, hu, hc0, hc1⟩ := (h.drd hd).kn hlt
        obtain ⟨A1, n1, c1, rfl, _, _, hn1⟩ := hu.form'
        have hm1 := hu.len_le
        clear h
        by_cases q1 : 250 < n1
        · have Hq : Hid (l.any bigK = true) := List.any_eq_true.2 ⟨y, List.mem_of_getElem? hy.out, by unfold bigK; rw [decide_eq_true (by have := hn1.out; omega)]; rfl⟩
          go_wp2
          go_ret
          exact ⟨ret_b Hq.out.symm, hd⟩
        · by_cases q2 : 300 < y.2.size
          · have Hq : Hid (l.any bigK = true) := List.any_eq_true.2 ⟨y, List.mem_of_getElem? hy.out, by unfold bigK; rw [decide_eq_true q2, Bool.or_true]⟩
            go_wp2
            go_ret
            exact ⟨ret_b Hq.out.symm, hd⟩
          · have Hq : Hid (bigK y = false) := by show _ = _; unfold bigK; rw [decide_eq_false (by have := hn1.out; omega), decide_eq_false q2]; rfl
            go_wp2
            refine ⟨⟨k + 1, hlt, by go_num, hd, hno.snoc fun z hz => ?_⟩, by simp [intOf]; omega⟩
            rw [hy.out] at hz; injection hz with hz; subst hz
            exact Hq.out
      · have Hq : Hid (l.any bigK = false) := by
          show _ = _
          rw [List.any_eq_false]
          intro y hy
          obtain ⟨j, hj⟩ := List.mem_iff_getElem?.1 hy
          have := hno j (by have := (List.getElem?_eq_some_iff.1 hj).1; omega) y hj
          rw [this]; simp
        go_wp2
        go_ret
        exact ⟨ret_b Hq.out.symm, hd⟩

end Go.Proofs.YtonadloonidmjaaDoor

/- The contracts of the program's comparisons of numbers, words and elements: cmp.Compare, cmp.Or, slices.Compare, compareWords. -/
import Derived.Test.YtonadloonidmjaaDoorGQ
import Derived.Test.YtonadloonidmjaaDoorSort
import Derived.Test.YtonadloonidmjaaDoorStruct
import Derived.Test.YtonadloonidmjaaDoorProg
import Derived.Lib.Hide
namespace Go.Proofs.YtonadloonidmjaaDoor
open Go.RowKit

/-- Nothing but draws and new blocks. -/
def Gr (w w' : World) : Prop := ∃ q os, w' = Sort.grow (w.drewN q) os
theorem Gr.refl (w : World) : Gr w w := ⟨0, #[], by simp [World.drewN]⟩
theorem Gr.drewN {a b : World} (h : Gr a b) (n : Nat) : Gr a (b.drewN n) := by
  obtain ⟨q, os, rfl⟩ := h
  exact ⟨q + n, os, by simp [World.drewN, Sort.grow, Nat.add_assoc]⟩
theorem Gr.drew {a b : World} (h : Gr a b) : Gr a b.drew := h.drewN 1
theorem Gr.grow {a b : World} (h : Gr a b) (os : Array Obj) : Gr a (Sort.grow b os) := by
  obtain ⟨q, os', rfl⟩ := h
  exact ⟨q, os' ++ os, by rw [Sort.grow_grow]⟩
theorem Gr.alloc {a b : World} (h : Gr a b) (o : Obj) : Gr a (b.alloc o) := by
  rw [Sort.alloc_eq_grow]; exact h.grow _
theorem Gr.then {a b c : World} (h : Gr a b) (k : Gr b c) : Gr a c := by
  obtain ⟨q, os, rfl⟩ := k
  exact (h.drewN q).grow os
theorem Dr.gr {a b : World} (h : Dr a b) : Gr a b := by
  obtain ⟨n, rfl⟩ := h; exact (Gr.refl a).drewN n
theorem Gr.bw {a b : World} (h : Gr a b) : Bw a b := by
  obtain ⟨q, os, rfl⟩ := h
  exact ⟨rfl, rfl, rfl, by simp [Sort.grow, World.drewN], fun k hk => Sort.heap_grow_old _ _ (by simpa [World.drewN] using hk)⟩

def cmpI (x y : Int) : Int := if x < y then -1 else if y < x then 1 else 0

theorem cmpI_any (x y : Int) {w : World} : Calls Tryd.prog 33 #[.int .i64 x, .int .i64 y] w fun e w' => e = .returned (.int .i64 (cmpI x y)) ∧ w' = w := by
  go_enter Tryd.func33, Tryd.ntmps33
  by_cases h1 : x < y
  · have h2 : ¬ y < x := by omega
    go_wp2
    go_ret
    exact ⟨ret_i (by unfold cmpI; rw [if_pos h1]), rfl⟩
  · by_cases h2 : y < x
    · go_wp2
      go_ret
      exact ⟨ret_i (by unfold cmpI; rw [if_neg (by omega), if_pos h2]), rfl⟩
    · go_wp2
      go_ret
      exact ⟨ret_i (by unfold cmpI; rw [if_neg (by omega), if_neg (by omega)]), rfl⟩

/-- The first that is not zero. -/
def orI (xs : List Int) : Int := (xs.find? fun x => decide (x ≠ 0)).getD 0
theorem or_any {v : Value} {xs : List Int} {w : World} (h : Rd tInt w v xs) :
    Calls Tryd.prog 48 #[v] w fun e w' => e = .returned (.int .i64 (orI xs)) ∧ Dr w w' := by
  have hm := h.len_le
  obtain ⟨A, c, rfl, _, _⟩ := h.form
  go_enter Tryd.func48, Tryd.ntmps48
  go_wp2
  go_loopw [8] (fun i wr => ∃ k : Nat, k ≤ xs.length ∧ i = .int .i64 k ∧ Dr w wr ∧ Pre k (fun j => xs[j]? = some 0)) (fun i _ => xs.length - (intOf i).toNat)
  case atStart => exact ⟨0, Nat.zero_le _, rfl, Dr.refl _, Pre.zero⟩
  case round =>
    obtain ⟨k, hk, rfl, hd, hno⟩ := hrel
    by_cases hlt : k < xs.length
    · obtain ⟨b, off, x, rfl, hx, _, _, hc⟩ := (h.drd hd).int hlt
      clear h
      by_cases c1 : x = 0
      · subst c1
        go_wp2
        exact ⟨⟨k + 1, hlt, by go_num, hd, hno.snoc hx.out⟩, by simp [intOf]; omega⟩
      · go_wp2
        go_ret
        refine ⟨ret_i ?_, hd⟩
        have hf : xs.find? (fun x => decide (x ≠ 0)) = some x := by
          obtain ⟨hl, e⟩ := List.getElem?_eq_some_iff.1 hx.out
          rw [List.find?_eq_some_iff_getElem]
          exact ⟨by simpa using c1, k, hl, e, fun j hj => by
            have this : xs[j]? = some 0 := hno j hj
            obtain ⟨h1, h2⟩ := List.getElem?_eq_some_iff.1 this
            simp [h2]⟩
        unfold orI; rw [hf]; rfl
    · go_wp2
      go_ret
      refine ⟨ret_i ?_, hd⟩
      have hf : xs.find? (fun x => decide (x ≠ 0)) = none := by
        rw [List.find?_eq_none]
        intro x hx
        obtain ⟨j, hj⟩ := List.mem_iff_getElem?.1 hx
        have this : xs[j]? = some 0 := hno j (by have := (List.getElem?_eq_some_iff.1 hj).1; omega)
        rw [hj] at this; injection this with this
        simp [this]
      unfold orI; rw [hf]; rfl
theorem or2 (a b : Int) : orI [a, b] = if a = 0 then b else a := by
  unfold orI
  by_cases h : a = 0
  · subst h
    by_cases h2 : b = 0
    · subst h2; simp
    · simp [h2]
  · simp [h]

/-- slices.Compare of ints. -/
def slC : List Int → List Int → Int
  | [], [] => 0
  | [], _ :: _ => -1
  | _ :: _, [] => 1
  | x :: xs, y :: ys => if x < y then -1 else if y < x then 1 else slC xs ys
theorem slC_at : ∀ (k : Nat) (x y : List Int), k ≤ x.length → k ≤ y.length → (∀ j, j < k → x[j]? = y[j]?) → slC x y = slC (x.drop k) (y.drop k)
  | 0, _, _, _, _, _ => by simp
  | k + 1, [], _, h, _, _ => by simp at h
  | k + 1, _ :: _, [], _, h, _ => by simp at h
  | k + 1, x :: xs, y :: ys, h1, h2, h => by
    have h0 := h 0 (by omega)
    simp at h0; subst h0
    rw [slC, if_neg (by omega), if_neg (by omega), slC_at k xs ys (by simpa using h1) (by simpa using h2) (fun j hj => by simpa using h (j + 1) (by omega))]
    simp
theorem slC_len : ∀ x y : List Int, x.length = y.length → slC x y = lexC x y
  | [], [], _ => rfl
  | [], _ :: _, h => by simp at h
  | _ :: _, [], h => by simp at h
  | x :: xs, y :: ys, h => by rw [slC, lexC, slC_len xs ys (by simpa using h)]
theorem drop_at {α : Type} {xs : List α} {k : Nat} {x : α} (h : xs[k]? = some x) : xs.drop k = x :: xs.drop (k + 1) := by
  obtain ⟨hk, e⟩ := List.getElem?_eq_some_iff.1 h
  rw [List.drop_eq_getElem_cons hk, e]

theorem slCmp_any {v u : Value} {xs ys : List Int} {w : World} (h : Rd tInt w v xs) (h' : Rd tInt w u ys) :
    Calls Tryd.prog 51 #[v, u] w fun e w' => e = .returned (.int .i64 (slC xs ys)) ∧ Dr w w' := by
  have hm := h.len_le
  have hm' := h'.len_le
  obtain ⟨A, c, rfl, _, _⟩ := h.form
  obtain ⟨A', c', rfl, _, _⟩ := h'.form
  go_enter Tryd.func51, Tryd.ntmps51
  go_wp2
  go_loopw [11, 5, 6, 7, 8] (fun i _ _ _ _ wr => ∃ k : Nat, k ≤ xs.length ∧ k ≤ ys.length ∧ i = .int .i64 k ∧ Dr w wr ∧ Pre k (fun j => xs[j]? = ys[j]?)) (fun i _ _ _ _ _ => xs.length - (intOf i).toNat)
  case atStart => exact ⟨0, Nat.zero_le _, Nat.zero_le _, rfl, Dr.refl _, Pre.zero⟩
  case round =>
    obtain ⟨k, hk, hk2, rfl, hd, hno⟩ := hrel
    have hat := Lib.hid (slC_at k xs ys hk hk2 hno)
    by_cases hlt : k < xs.length
    · obtain ⟨b, off, x, rfl, hx, _, _, hc⟩ := (h.drd hd).int hlt
      by_cases hlt2 : k < ys.length
      · obtain ⟨b', off', y, rfl, hy, _, _, hc'⟩ := (h'.drd hd).int hlt2
        clear h h'
        by_cases c1 : x < y
        · have cv : Hid (cmpI x y = -1) := by unfold cmpI; exact if_pos c1
          go_wp2_with fail
          refine (cmpI_any x y).mono ?_
          rintro e w1 ⟨rfl, rfl⟩
          rw [cv.out]
          go_wp2_with fail
          go_ret
          exact ⟨ret_i (by rw [hat.out, drop_at hx.out, drop_at hy.out, slC, if_pos c1]), hd⟩
        by_cases c2 : y < x
        · have cv : Hid (cmpI x y = 1) := by unfold cmpI; exact (if_neg (by omega)).trans (if_pos c2)
          go_wp2_with fail
          refine (cmpI_any x y).mono ?_
          rintro e w1 ⟨rfl, rfl⟩
          rw [cv.out]
          go_wp2_with fail
          go_ret
          exact ⟨ret_i (by rw [hat.out, drop_at hx.out, drop_at hy.out, slC, if_neg (by omega), if_pos c2]), hd⟩
        have cv : Hid (cmpI x y = 0) := by unfold cmpI; exact (if_neg c1).trans (if_neg c2)
        go_wp2_with fail
        refine (cmpI_any x y).mono ?_
        rintro e w1 ⟨rfl, rfl⟩
        rw [cv.out]
        go_wp2_with fail
        refine ⟨⟨k + 1, hlt, hlt2, by go_num, hd, hno.snoc ?_⟩, by simp [intOf]; omega⟩
        rw [hx.out, hy.out]
        have : x = y := by omega
        rw [this]
      · clear h h'
        go_wp2
        go_ret
        have hy0 : Hid (ys.drop k = []) := List.drop_eq_nil_of_le (by omega)
        exact ⟨ret_i (by rw [hat.out, drop_at hx.out, hy0.out, slC]), hd⟩
    · have hx0 : Hid (xs.drop k = []) := List.drop_eq_nil_of_le (by omega)
      by_cases hlt2 : xs.length < ys.length
      · go_wp2
        go_ret
        refine ⟨ret_i ?_, hd⟩
        rw [hat.out, hx0.out, drop_at (List.getElem?_eq_getElem (show k < ys.length by omega)), slC]
      · go_wp2
        go_ret
        refine ⟨ret_i ?_, hd⟩
        rw [hat.out, hx0.out, List.drop_eq_nil_of_le (show ys.length ≤ k by omega), slC]
end Go.Proofs.YtonadloonidmjaaDoor

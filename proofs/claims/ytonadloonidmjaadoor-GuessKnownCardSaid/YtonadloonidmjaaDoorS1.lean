/- The contracts of the reference's readers of UTF-8: 'at', 'more', 'Point'. Conditions: a string of at most 16384 bytes, a place in it. -/
import Derived.Test.YtonadloonidmjaaDoorProg
import Derived.Test.YtonadloonidmjaaDoorTail
import Derived.Test.YtonadloonidmjaaDoorPlain
import Derived.WalkKit
import Derived.Lib.Hide
namespace Go.Proofs.YtonadloonidmjaaDoor
open Go.RowKit
open Pl

theorem get!_of_lt (s : ByteArray) (k : Nat) (h : k < s.size) : s.get! k = s[k]'h := by
  show s.data[k]! = _
  rw [Array.getElem!_eq_getD, Array.getD_eq_getD_getElem?, Array.getElem?_eq_getElem h]
  rfl
theorem get!_of_ge (s : ByteArray) (k : Nat) (h : s.size ≤ k) : byteAt s k = 0 := by
  have h' : s.data.size ≤ k := h
  show (s.data[k]!).toNat = 0
  rw [Array.getElem!_eq_getD, Array.getD_eq_getD_getElem?, Array.getElem?_eq_none h']
  rfl
theorem byteAt_lt (s : ByteArray) (k : Nat) : byteAt s k < 256 := (s.get! k).toNat_lt

theorem at_any {s : ByteArray} {i : Nat} {w : World} (_hs : s.size ≤ 16384) (hi : i ≤ s.size + 3) :
    Calls Tryd.prog 100 #[.string s, .int .i64 i] w fun e w' => e = .returned (.int .i64 (byteAt s i)) ∧ w' = w := by
  by_cases h : i < s.size
  · have hb : (byteAt s i : Int) = (s[i]'h).toNat := by unfold byteAt; rw [get!_of_lt s i h]
    have hI : (i : Int) < (s.size : Int) := by omega
    have hl := byteAt_lt s i
    rw [hb]
    go_enter Tryd.func100, Tryd.ntmps100
    go_wp2
    go_ret
    exact ⟨rfl, rfl⟩
  · rw [get!_of_ge s i (by omega)]
    have hI : ¬ ((i : Int) < (s.size : Int)) := by omega
    go_enter Tryd.func100, Tryd.ntmps100
    go_wp2
    go_ret
    exact ⟨rfl, rfl⟩

def moreB (s : ByteArray) (i : Nat) : Bool := decide (128 ≤ byteAt s i) && decide (byteAt s i < 192)
set_option maxRecDepth 100000 in
theorem more_any {s : ByteArray} {i : Nat} {w : World} (hs : s.size ≤ 16384) (hi : i ≤ s.size + 3) :
    Calls Tryd.prog 101 #[.string s, .int .i64 i] w fun e w' => e = .returned (.bool (moreB s i)) ∧ w' = w := by
  have HA := Lib.hid (fun w => at_any (w := w) hs hi)
  unfold moreB
  have hl := byteAt_lt s i
  clear hs hi
  generalize byteAt s i = b at *
  by_cases h1 : 128 ≤ b
  · by_cases h2 : b < 192
    · rw [decide_eq_true h1, decide_eq_true h2]
      go_enter Tryd.func101, Tryd.ntmps101
      go_wp2_with (go_at_call 100; refine (HA.out _).mono ?_; rintro e w' ⟨rfl, rfl⟩)
      go_ret
      exact ⟨ret_b (by simp; omega), rfl⟩
    · rw [decide_eq_true h1, decide_eq_false h2]
      go_enter Tryd.func101, Tryd.ntmps101
      go_wp2_with (go_at_call 100; refine (HA.out _).mono ?_; rintro e w' ⟨rfl, rfl⟩)
      go_ret
      exact ⟨ret_b (by simp; omega), rfl⟩
  · rw [decide_eq_false h1]
    go_enter Tryd.func101, Tryd.ntmps101
    go_wp2_with (go_at_call 100; refine (HA.out _).mono ?_; rintro e w' ⟨rfl, rfl⟩)
    go_ret
    exact ⟨rfl, rfl⟩

/-- What the walk of 'Point' asks of its four bytes. -/
structure PtH (s : ByteArray) (i b0 b1 b2 b3 : Nat) (B1 B2 B3 : Bool) : Prop where
  a0 : ∀ w, Calls Tryd.prog 100 #[.string s, .int .i64 i] w fun e w' => e = .returned (.int .i64 b0) ∧ w' = w
  a1 : ∀ w, Calls Tryd.prog 100 #[.string s, .int .i64 (i + 1)] w fun e w' => e = .returned (.int .i64 b1) ∧ w' = w
  a2 : ∀ w, Calls Tryd.prog 100 #[.string s, .int .i64 (i + 2)] w fun e w' => e = .returned (.int .i64 b2) ∧ w' = w
  a3 : ∀ w, Calls Tryd.prog 100 #[.string s, .int .i64 (i + 3)] w fun e w' => e = .returned (.int .i64 b3) ∧ w' = w
  m1 : ∀ w, Calls Tryd.prog 101 #[.string s, .int .i64 (i + 1)] w fun e w' => e = .returned (.bool B1) ∧ w' = w
  m2 : ∀ w, Calls Tryd.prog 101 #[.string s, .int .i64 (i + 2)] w fun e w' => e = .returned (.bool B2) ∧ w' = w
  m3 : ∀ w, Calls Tryd.prog 101 #[.string s, .int .i64 (i + 3)] w fun e w' => e = .returned (.bool B3) ∧ w' = w

set_option maxRecDepth 100000 in
set_option maxHeartbeats 4000000 in
theorem pt_low {s : ByteArray} {i n b0 b1 b2 b3 : Nat} {B1 B2 B3 : Bool} {w : World} (_hs : s.size ≤ 16384) (hi : i ≤ s.size) (hn : n = s.size - i) (H : PtH s i b0 b1 b2 b3 B1 B2 B3) (h0 : b0 < 256) (h1 : b1 < 256) (h2 : b2 < 256) (h3 : b3 < 256)
    (e1 : B1 = true ↔ (128 ≤ b1 ∧ b1 < 192)) (e2 : B2 = true ↔ (128 ≤ b2 ∧ b2 < 192)) (e3 : B3 = true ↔ (128 ≤ b3 ∧ b3 < 192)) (hx : ¬ i < s.size ∨ b0 < 128 ∨ (128 ≤ b0 ∧ b0 < 192) ∨ 248 ≤ b0) :
    Calls Tryd.prog 95 #[.string s, .int .i64 i] w fun e w' => e = .returned (.tuple #[.int .i64 (ptN n b0 b1 b2 b3).1, .int .i64 (ptN n b0 b1 b2 b3).2]) ∧ w' = w := by
  have A0 := Lib.hid H.a0
  have A1 := Lib.hid H.a1
  have A2 := Lib.hid H.a2
  have A3 := Lib.hid H.a3
  have M1 := Lib.hid H.m1
  have M2 := Lib.hid H.m2
  have M3 := Lib.hid H.m3
  clear H
  by_cases hlt : i < s.size
  · have hx := hx.resolve_left (fun h => h hlt)
    by_cases c1 : b0 < 128
    ·
      have hp : ptN n b0 b1 b2 b3 = (b0, 1) := by
        unfold ptN
        repeat' split
        all_goals first | (exfalso; omega) | rfl
      rw [hp]
      clear hp
      clear e1 e2 e3
      go_enter Tryd.func95, Tryd.ntmps95
      go_wp2_with (first
        | (go_at_call 100; first | (with_reducible refine (A0.out _).mono ?_); rintro e w' ⟨rfl, rfl⟩ | (with_reducible refine (A1.out _).mono ?_); rintro e w' ⟨rfl, rfl⟩ | (with_reducible refine (A2.out _).mono ?_); rintro e w' ⟨rfl, rfl⟩ | (with_reducible refine (A3.out _).mono ?_); rintro e w' ⟨rfl, rfl⟩)
        | (go_at_call 101; first | (with_reducible refine (M1.out _).mono ?_); rintro e w' ⟨rfl, rfl⟩ | (with_reducible refine (M2.out _).mono ?_); rintro e w' ⟨rfl, rfl⟩ | (with_reducible refine (M3.out _).mono ?_); rintro e w' ⟨rfl, rfl⟩))
      go_ret2
      exact ⟨rfl, rfl⟩
    ·
      have hp : ptN n b0 b1 b2 b3 = (0, 0) := by
        unfold ptN
        repeat' split
        all_goals first | (exfalso; omega) | rfl
      rw [hp]
      clear hp
      have hx := hx.resolve_left c1
      clear e1 e2 e3
      rcases hx with ⟨hx, hy⟩ | hx
      ·
        go_enter Tryd.func95, Tryd.ntmps95
        go_wp2_with (first
          | (go_at_call 100; first | (with_reducible refine (A0.out _).mono ?_); rintro e w' ⟨rfl, rfl⟩ | (with_reducible refine (A1.out _).mono ?_); rintro e w' ⟨rfl, rfl⟩ | (with_reducible refine (A2.out _).mono ?_); rintro e w' ⟨rfl, rfl⟩ | (with_reducible refine (A3.out _).mono ?_); rintro e w' ⟨rfl, rfl⟩)
          | (go_at_call 101; first | (with_reducible refine (M1.out _).mono ?_); rintro e w' ⟨rfl, rfl⟩ | (with_reducible refine (M2.out _).mono ?_); rintro e w' ⟨rfl, rfl⟩ | (with_reducible refine (M3.out _).mono ?_); rintro e w' ⟨rfl, rfl⟩))
        go_ret2
        exact ⟨rfl, rfl⟩
      ·
        go_enter Tryd.func95, Tryd.ntmps95
        go_wp2_with (first
          | (go_at_call 100; first | (with_reducible refine (A0.out _).mono ?_); rintro e w' ⟨rfl, rfl⟩ | (with_reducible refine (A1.out _).mono ?_); rintro e w' ⟨rfl, rfl⟩ | (with_reducible refine (A2.out _).mono ?_); rintro e w' ⟨rfl, rfl⟩ | (with_reducible refine (A3.out _).mono ?_); rintro e w' ⟨rfl, rfl⟩)
          | (go_at_call 101; first | (with_reducible refine (M1.out _).mono ?_); rintro e w' ⟨rfl, rfl⟩ | (with_reducible refine (M2.out _).mono ?_); rintro e w' ⟨rfl, rfl⟩ | (with_reducible refine (M3.out _).mono ?_); rintro e w' ⟨rfl, rfl⟩))
        go_ret2
        exact ⟨rfl, rfl⟩
  ·
    have hp : ptN n b0 b1 b2 b3 = (0, 0) := by
      unfold ptN
      repeat' split
      all_goals first | (exfalso; omega) | rfl
    rw [hp]
    clear hp
    clear e1 e2 e3
    go_enter Tryd.func95, Tryd.ntmps95
    go_wp2_with (first
      | (go_at_call 100; first | (with_reducible refine (A0.out _).mono ?_); rintro e w' ⟨rfl, rfl⟩ | (with_reducible refine (A1.out _).mono ?_); rintro e w' ⟨rfl, rfl⟩ | (with_reducible refine (A2.out _).mono ?_); rintro e w' ⟨rfl, rfl⟩ | (with_reducible refine (A3.out _).mono ?_); rintro e w' ⟨rfl, rfl⟩)
      | (go_at_call 101; first | (with_reducible refine (M1.out _).mono ?_); rintro e w' ⟨rfl, rfl⟩ | (with_reducible refine (M2.out _).mono ?_); rintro e w' ⟨rfl, rfl⟩ | (with_reducible refine (M3.out _).mono ?_); rintro e w' ⟨rfl, rfl⟩))
    go_ret2
    exact ⟨rfl, rfl⟩

set_option maxRecDepth 100000 in
set_option maxHeartbeats 4000000 in
theorem pt_two {s : ByteArray} {i n b0 b1 b2 b3 : Nat} {B1 B2 B3 : Bool} {w : World} (hs : s.size ≤ 16384) (_hi : i ≤ s.size) (hn : n = s.size - i) (H : PtH s i b0 b1 b2 b3 B1 B2 B3) (h0 : b0 < 256) (h1 : b1 < 256) (h2 : b2 < 256) (h3 : b3 < 256)
    (e1 : B1 = true ↔ (128 ≤ b1 ∧ b1 < 192)) (e2 : B2 = true ↔ (128 ≤ b2 ∧ b2 < 192)) (e3 : B3 = true ↔ (128 ≤ b3 ∧ b3 < 192)) (hlt : i < s.size) (c2 : 192 ≤ b0) (c3 : b0 < 224) :
    Calls Tryd.prog 95 #[.string s, .int .i64 i] w fun e w' => e = .returned (.tuple #[.int .i64 (ptN n b0 b1 b2 b3).1, .int .i64 (ptN n b0 b1 b2 b3).2]) ∧ w' = w := by
  have A0 := Lib.hid H.a0
  have A1 := Lib.hid H.a1
  have A2 := Lib.hid H.a2
  have A3 := Lib.hid H.a3
  have M1 := Lib.hid H.m1
  have M2 := Lib.hid H.m2
  have M3 := Lib.hid H.m3
  clear H
  cases B1
  · have e1' : ¬ (128 ≤ b1 ∧ b1 < 192) := fun h => by have := e1.2 h; cases this
    have hp : ptN n b0 b1 b2 b3 = (0, 0) := by
      unfold ptN
      repeat' split
      all_goals first | (exfalso; omega) | rfl
    rw [hp]
    clear hp
    clear e1 e2 e3 e1'
    go_enter Tryd.func95, Tryd.ntmps95
    go_wp2_with (first
      | (go_at_call 100; first | (with_reducible refine (A0.out _).mono ?_); rintro e w' ⟨rfl, rfl⟩ | (with_reducible refine (A1.out _).mono ?_); rintro e w' ⟨rfl, rfl⟩ | (with_reducible refine (A2.out _).mono ?_); rintro e w' ⟨rfl, rfl⟩ | (with_reducible refine (A3.out _).mono ?_); rintro e w' ⟨rfl, rfl⟩)
      | (go_at_call 101; first | (with_reducible refine (M1.out _).mono ?_); rintro e w' ⟨rfl, rfl⟩ | (with_reducible refine (M2.out _).mono ?_); rintro e w' ⟨rfl, rfl⟩ | (with_reducible refine (M3.out _).mono ?_); rintro e w' ⟨rfl, rfl⟩))
    go_ret2
    exact ⟨rfl, rfl⟩
  · have e1' := e1.1 rfl
    by_cases c4 : 128 ≤ (b0 - 192) * 64 + b1 - 128
    ·
      have hp : ptN n b0 b1 b2 b3 = ((b0 - 192) * 64 + b1 - 128, 2) := by
        unfold ptN
        repeat' split
        all_goals first | (exfalso; omega) | rfl
      rw [hp]
      clear hp
      have c4' : (128 : Int) ≤ ((b0 : Int) - 192) * 64 + b1 - 128 := by omega
      clear e1 e2 e3
      go_enter Tryd.func95, Tryd.ntmps95
      go_wp2_with (first
        | (go_at_call 100; first | (with_reducible refine (A0.out _).mono ?_); rintro e w' ⟨rfl, rfl⟩ | (with_reducible refine (A1.out _).mono ?_); rintro e w' ⟨rfl, rfl⟩ | (with_reducible refine (A2.out _).mono ?_); rintro e w' ⟨rfl, rfl⟩ | (with_reducible refine (A3.out _).mono ?_); rintro e w' ⟨rfl, rfl⟩)
        | (go_at_call 101; first | (with_reducible refine (M1.out _).mono ?_); rintro e w' ⟨rfl, rfl⟩ | (with_reducible refine (M2.out _).mono ?_); rintro e w' ⟨rfl, rfl⟩ | (with_reducible refine (M3.out _).mono ?_); rintro e w' ⟨rfl, rfl⟩))
      go_ret2
      exact ⟨by go_num, rfl⟩
    ·
      have hp : ptN n b0 b1 b2 b3 = (0, 0) := by
        unfold ptN
        repeat' split
        all_goals first | (exfalso; omega) | rfl
      rw [hp]
      clear hp
      have c4' : ¬ ((128 : Int) ≤ ((b0 : Int) - 192) * 64 + b1 - 128) := by omega
      clear e1 e2 e3
      go_enter Tryd.func95, Tryd.ntmps95
      go_wp2_with (first
        | (go_at_call 100; first | (with_reducible refine (A0.out _).mono ?_); rintro e w' ⟨rfl, rfl⟩ | (with_reducible refine (A1.out _).mono ?_); rintro e w' ⟨rfl, rfl⟩ | (with_reducible refine (A2.out _).mono ?_); rintro e w' ⟨rfl, rfl⟩ | (with_reducible refine (A3.out _).mono ?_); rintro e w' ⟨rfl, rfl⟩)
        | (go_at_call 101; first | (with_reducible refine (M1.out _).mono ?_); rintro e w' ⟨rfl, rfl⟩ | (with_reducible refine (M2.out _).mono ?_); rintro e w' ⟨rfl, rfl⟩ | (with_reducible refine (M3.out _).mono ?_); rintro e w' ⟨rfl, rfl⟩))
      go_ret2
      exact ⟨rfl, rfl⟩
end Go.Proofs.YtonadloonidmjaaDoor

/- The walk of the reference's 'Point' at a lead byte of four. Conditions: as stated. -/
import Derived.Test.YtonadloonidmjaaDoorS1
namespace Go.Proofs.YtonadloonidmjaaDoor
open Go.RowKit
open Pl

set_option maxRecDepth 100000 in
set_option maxHeartbeats 4000000 in
theorem pt_four {s : ByteArray} {i n b0 b1 b2 b3 : Nat} {B1 B2 B3 : Bool} {w : World} (hs : s.size ≤ 16384) (_hi : i ≤ s.size) (hn : n = s.size - i) (H : PtH s i b0 b1 b2 b3 B1 B2 B3) (h0 : b0 < 256) (h1 : b1 < 256) (h2 : b2 < 256) (h3 : b3 < 256)
    (e1 : B1 = true ↔ (128 ≤ b1 ∧ b1 < 192)) (e2 : B2 = true ↔ (128 ≤ b2 ∧ b2 < 192)) (e3 : B3 = true ↔ (128 ≤ b3 ∧ b3 < 192)) (hlt : i < s.size) (c2 : 240 ≤ b0) (c3 : b0 < 248) :
    Calls Tryd.prog 95 #[.string s, .int .i64 i] w fun e w' => e = .returned (.tuple #[.int .i64 (ptN n b0 b1 b2 b3).1, .int .i64 (ptN n b0 b1 b2 b3).2]) ∧ w' = w := by
  have A0 := Lib.hid H.a0
  have A1 := Lib.hid H.a1
  have A2 := Lib.hid H.a2
  have A3 := Lib.hid H.a3
  have M1 := Lib.hid H.m1
  have M2 := Lib.hid H.m2
  have M3 := Lib.hid H.m3
  clear H
  cases B1
  · have e1' : ¬ (128 ≤ b1 ∧ b1 < 192) := fun h => by have := e1.2 h; cases this
    have hp : ptN n b0 b1 b2 b3 = (0, 0) := by
      unfold ptN
      repeat' split
      all_goals first | (exfalso; omega) | rfl
    rw [hp]
    clear hp
    clear e1 e2 e3 e1'
    go_enter Tryd.func95, Tryd.ntmps95
    go_wp2_with (first
      | (go_at_call 100; first | (with_reducible refine (A0.out _).mono ?_); rintro e w' ⟨rfl, rfl⟩ | (with_reducible refine (A1.out _).mono ?_); rintro e w' ⟨rfl, rfl⟩ | (with_reducible refine (A2.out _).mono ?_); rintro e w' ⟨rfl, rfl⟩ | (with_reducible refine (A3.out _).mono ?_); rintro e w' ⟨rfl, rfl⟩)
      | (go_at_call 101; first | (with_reducible refine (M1.out _).mono ?_); rintro e w' ⟨rfl, rfl⟩ | (with_reducible refine (M2.out _).mono ?_); rintro e w' ⟨rfl, rfl⟩ | (with_reducible refine (M3.out _).mono ?_); rintro e w' ⟨rfl, rfl⟩))
    go_ret2
    exact ⟨rfl, rfl⟩
  cases B2
  · have e2' : ¬ (128 ≤ b2 ∧ b2 < 192) := fun h => by have := e2.2 h; cases this
    have hp : ptN n b0 b1 b2 b3 = (0, 0) := by
      unfold ptN
      repeat' split
      all_goals first | (exfalso; omega) | rfl
    rw [hp]
    clear hp
    clear e1 e2 e3 e2'
    go_enter Tryd.func95, Tryd.ntmps95
    go_wp2_with (first
      | (go_at_call 100; first | (with_reducible refine (A0.out _).mono ?_); rintro e w' ⟨rfl, rfl⟩ | (with_reducible refine (A1.out _).mono ?_); rintro e w' ⟨rfl, rfl⟩ | (with_reducible refine (A2.out _).mono ?_); rintro e w' ⟨rfl, rfl⟩ | (with_reducible refine (A3.out _).mono ?_); rintro e w' ⟨rfl, rfl⟩)
      | (go_at_call 101; first | (with_reducible refine (M1.out _).mono ?_); rintro e w' ⟨rfl, rfl⟩ | (with_reducible refine (M2.out _).mono ?_); rintro e w' ⟨rfl, rfl⟩ | (with_reducible refine (M3.out _).mono ?_); rintro e w' ⟨rfl, rfl⟩))
    go_ret2
    exact ⟨rfl, rfl⟩
  cases B3
  · have e3' : ¬ (128 ≤ b3 ∧ b3 < 192) := fun h => by have := e3.2 h; cases this
    have hp : ptN n b0 b1 b2 b3 = (0, 0) := by
      unfold ptN
      repeat' split
      all_goals first | (exfalso; omega) | rfl
    rw [hp]
    clear hp
    clear e1 e2 e3 e3'
    go_enter Tryd.func95, Tryd.ntmps95
    go_wp2_with (first
      | (go_at_call 100; first | (with_reducible refine (A0.out _).mono ?_); rintro e w' ⟨rfl, rfl⟩ | (with_reducible refine (A1.out _).mono ?_); rintro e w' ⟨rfl, rfl⟩ | (with_reducible refine (A2.out _).mono ?_); rintro e w' ⟨rfl, rfl⟩ | (with_reducible refine (A3.out _).mono ?_); rintro e w' ⟨rfl, rfl⟩)
      | (go_at_call 101; first | (with_reducible refine (M1.out _).mono ?_); rintro e w' ⟨rfl, rfl⟩ | (with_reducible refine (M2.out _).mono ?_); rintro e w' ⟨rfl, rfl⟩ | (with_reducible refine (M3.out _).mono ?_); rintro e w' ⟨rfl, rfl⟩))
    go_ret2
    exact ⟨rfl, rfl⟩
  have e1' := e1.1 rfl
  have e2' := e2.1 rfl
  have e3' := e3.1 rfl
  by_cases c6 : 65536 ≤ (b0 - 240) * 262144 + (b1 - 128) * 4096 + (b2 - 128) * 64 + b3 - 128
  · have d6 : (65536 : Int) ≤ ((b0 : Int) - 240) * 262144 + ((b1 : Int) - 128) * 4096 + ((b2 : Int) - 128) * 64 + b3 - 128 := by omega
    by_cases c7 : (b0 - 240) * 262144 + (b1 - 128) * 4096 + (b2 - 128) * 64 + b3 - 128 ≤ 1114111
    ·
      have hp : ptN n b0 b1 b2 b3 = ((b0 - 240) * 262144 + (b1 - 128) * 4096 + (b2 - 128) * 64 + b3 - 128, 4) := by
        unfold ptN
        repeat' split
        all_goals first | (exfalso; omega) | rfl
      rw [hp]
      clear hp
      have d7 : ((b0 : Int) - 240) * 262144 + ((b1 : Int) - 128) * 4096 + ((b2 : Int) - 128) * 64 + b3 - 128 ≤ 1114111 := by omega
      clear e1 e2 e3
      go_enter Tryd.func95, Tryd.ntmps95
      go_wp2_with (first
        | (go_at_call 100; first | (with_reducible refine (A0.out _).mono ?_); rintro e w' ⟨rfl, rfl⟩ | (with_reducible refine (A1.out _).mono ?_); rintro e w' ⟨rfl, rfl⟩ | (with_reducible refine (A2.out _).mono ?_); rintro e w' ⟨rfl, rfl⟩ | (with_reducible refine (A3.out _).mono ?_); rintro e w' ⟨rfl, rfl⟩)
        | (go_at_call 101; first | (with_reducible refine (M1.out _).mono ?_); rintro e w' ⟨rfl, rfl⟩ | (with_reducible refine (M2.out _).mono ?_); rintro e w' ⟨rfl, rfl⟩ | (with_reducible refine (M3.out _).mono ?_); rintro e w' ⟨rfl, rfl⟩))
      go_ret2
      exact ⟨by go_num, rfl⟩
    ·
      have hp : ptN n b0 b1 b2 b3 = (0, 0) := by
        unfold ptN
        repeat' split
        all_goals first | (exfalso; omega) | rfl
      rw [hp]
      clear hp
      have d7 : ¬ (((b0 : Int) - 240) * 262144 + ((b1 : Int) - 128) * 4096 + ((b2 : Int) - 128) * 64 + b3 - 128 ≤ 1114111) := by omega
      clear e1 e2 e3
      go_enter Tryd.func95, Tryd.ntmps95
      go_wp2_with (first
        | (go_at_call 100; first | (with_reducible refine (A0.out _).mono ?_); rintro e w' ⟨rfl, rfl⟩ | (with_reducible refine (A1.out _).mono ?_); rintro e w' ⟨rfl, rfl⟩ | (with_reducible refine (A2.out _).mono ?_); rintro e w' ⟨rfl, rfl⟩ | (with_reducible refine (A3.out _).mono ?_); rintro e w' ⟨rfl, rfl⟩)
        | (go_at_call 101; first | (with_reducible refine (M1.out _).mono ?_); rintro e w' ⟨rfl, rfl⟩ | (with_reducible refine (M2.out _).mono ?_); rintro e w' ⟨rfl, rfl⟩ | (with_reducible refine (M3.out _).mono ?_); rintro e w' ⟨rfl, rfl⟩))
      go_ret2
      exact ⟨rfl, rfl⟩
  ·
    have hp : ptN n b0 b1 b2 b3 = (0, 0) := by
      unfold ptN
      repeat' split
      all_goals first | (exfalso; omega) | rfl
    rw [hp]
    clear hp
    have d6 : ¬ ((65536 : Int) ≤ ((b0 : Int) - 240) * 262144 + ((b1 : Int) - 128) * 4096 + ((b2 : Int) - 128) * 64 + b3 - 128) := by omega
    clear e1 e2 e3
    go_enter Tryd.func95, Tryd.ntmps95
    go_wp2_with (first
      | (go_at_call 100; first | (with_reducible refine (A0.out _).mono ?_); rintro e w' ⟨rfl, rfl⟩ | (with_reducible refine (A1.out _).mono ?_); rintro e w' ⟨rfl, rfl⟩ | (with_reducible refine (A2.out _).mono ?_); rintro e w' ⟨rfl, rfl⟩ | (with_reducible refine (A3.out _).mono ?_); rintro e w' ⟨rfl, rfl⟩)
      | (go_at_call 101; first | (with_reducible refine (M1.out _).mono ?_); rintro e w' ⟨rfl, rfl⟩ | (with_reducible refine (M2.out _).mono ?_); rintro e w' ⟨rfl, rfl⟩ | (with_reducible refine (M3.out _).mono ?_); rintro e w' ⟨rfl, rfl⟩))
    go_ret2
    exact ⟨rfl, rfl⟩
end Go.Proofs.YtonadloonidmjaaDoor

/- The contract of the reference's 'Point'. Conditions: a string of at most 16384 bytes, a place in it. -/
import Derived.Test.YtonadloonidmjaaDoorS1b
import Derived.Test.YtonadloonidmjaaDoorS1c
namespace Go.Proofs.YtonadloonidmjaaDoor
open Go.RowKit
open Pl

theorem pt_walk {s : ByteArray} {i n b0 b1 b2 b3 : Nat} {B1 B2 B3 : Bool} {w : World} (hs : s.size ≤ 16384) (hi : i ≤ s.size) (hn : n = s.size - i) (H : PtH s i b0 b1 b2 b3 B1 B2 B3) (h0 : b0 < 256) (h1 : b1 < 256) (h2 : b2 < 256) (h3 : b3 < 256)
    (e1 : B1 = true ↔ (128 ≤ b1 ∧ b1 < 192)) (e2 : B2 = true ↔ (128 ≤ b2 ∧ b2 < 192)) (e3 : B3 = true ↔ (128 ≤ b3 ∧ b3 < 192)) :
    Calls Tryd.prog 95 #[.string s, .int .i64 i] w fun e w' => e = .returned (.tuple #[.int .i64 (ptN n b0 b1 b2 b3).1, .int .i64 (ptN n b0 b1 b2 b3).2]) ∧ w' = w := by
  by_cases hlt : i < s.size
  · by_cases c1 : b0 < 128
    · exact pt_low hs hi hn H h0 h1 h2 h3 e1 e2 e3 (.inr (.inl c1))
    by_cases c2 : b0 < 192
    · exact pt_low hs hi hn H h0 h1 h2 h3 e1 e2 e3 (.inr (.inr (.inl ⟨by omega, c2⟩)))
    by_cases c3 : b0 < 224
    · exact pt_two hs hi hn H h0 h1 h2 h3 e1 e2 e3 hlt (by omega) c3
    by_cases c4 : b0 < 240
    · exact pt_three hs hi hn H h0 h1 h2 h3 e1 e2 e3 hlt (by omega) c4
    by_cases c5 : b0 < 248
    · exact pt_four hs hi hn H h0 h1 h2 h3 e1 e2 e3 hlt (by omega) c5
    · exact pt_low hs hi hn H h0 h1 h2 h3 e1 e2 e3 (.inr (.inr (.inr (by omega))))
  · exact pt_low hs hi hn H h0 h1 h2 h3 e1 e2 e3 (.inl hlt)

theorem pt_any {s : ByteArray} {i : Nat} {w : World} (hs : s.size ≤ 16384) (hi : i ≤ s.size) :
    Calls Tryd.prog 95 #[.string s, .int .i64 i] w fun e w' => e = .returned (.tuple #[.int .i64 (pt s i).1, .int .i64 (pt s i).2]) ∧ w' = w :=
  pt_walk (B1 := moreB s (i + 1)) (B2 := moreB s (i + 2)) (B3 := moreB s (i + 3)) hs hi rfl
    ⟨fun _ => at_any hs (by omega), fun _ => at_any (i := i + 1) hs (by omega), fun _ => at_any (i := i + 2) hs (by omega), fun _ => at_any (i := i + 3) hs (by omega),
      fun _ => more_any (i := i + 1) hs (by omega), fun _ => more_any (i := i + 2) hs (by omega), fun _ => more_any (i := i + 3) hs (by omega)⟩
    (byteAt_lt _ _) (byteAt_lt _ _) (byteAt_lt _ _) (byteAt_lt _ _) (by simp [moreB]) (by simp [moreB]) (by simp [moreB])
end Go.Proofs.YtonadloonidmjaaDoor

/- Plain laws on UTF-8: the reference's 'Point' against the model's decoding; what it means that a string splits into letters. Conditions: none; no program in sight. -/
import Derived.Lib.DecodeN
import Derived.Test.YtonadloonidmjaaDoorPure
namespace Go.Proofs.YtonadloonidmjaaDoor.Pl
open Go.Lib

/-- A byte of a string; 0 beyond its end. -/
def byteAt (s : ByteArray) (i : Nat) : Nat := (s.get! i).toNat

/-- 'Point' of a place with so many bytes left, which begin so. -/
def ptN (n b0 b1 b2 b3 : Nat) : Nat × Nat :=
  if n = 0 then (0, 0)
  else if b0 < 128 then (b0, 1)
  else if (192 ≤ b0 ∧ b0 < 224) ∧ (128 ≤ b1 ∧ b1 < 192) ∧ 128 ≤ (b0 - 192) * 64 + b1 - 128 then ((b0 - 192) * 64 + b1 - 128, 2)
  else if (224 ≤ b0 ∧ b0 < 240) ∧ (128 ≤ b1 ∧ b1 < 192) ∧ (128 ≤ b2 ∧ b2 < 192) ∧ 2048 ≤ (b0 - 224) * 4096 + (b1 - 128) * 64 + b2 - 128 ∧
      ((b0 - 224) * 4096 + (b1 - 128) * 64 + b2 - 128 < 55296 ∨ 57343 < (b0 - 224) * 4096 + (b1 - 128) * 64 + b2 - 128) then ((b0 - 224) * 4096 + (b1 - 128) * 64 + b2 - 128, 3)
  else if (240 ≤ b0 ∧ b0 < 248) ∧ (128 ≤ b1 ∧ b1 < 192) ∧ (128 ≤ b2 ∧ b2 < 192) ∧ (128 ≤ b3 ∧ b3 < 192) ∧ 65536 ≤ (b0 - 240) * 262144 + (b1 - 128) * 4096 + (b2 - 128) * 64 + b3 - 128 ∧
      (b0 - 240) * 262144 + (b1 - 128) * 4096 + (b2 - 128) * 64 + b3 - 128 ≤ 1114111 then ((b0 - 240) * 262144 + (b1 - 128) * 4096 + (b2 - 128) * 64 + b3 - 128, 4)
  else (0, 0)

def pt (s : ByteArray) (i : Nat) : Nat × Nat := ptN (s.size - i) (byteAt s i) (byteAt s (i + 1)) (byteAt s (i + 2)) (byteAt s (i + 3))

set_option maxRecDepth 100000 in
set_option maxHeartbeats 4000000 in
theorem ptN_law (n b0 b1 b2 b3 : Nat) (hn : 0 < n) (h0 : b0 < 256) (h1 : b1 < 256) (h2 : b2 < 256) (h3 : b3 < 256) (e1 : n ≤ 1 → b1 = 0) (e2 : n ≤ 2 → b2 = 0) (e3 : n ≤ 3 → b3 = 0) :
    decodeN n b0 b1 b2 b3 = if (ptN n b0 b1 b2 b3).2 = 0 then (65533, 1) else ptN n b0 b1 b2 b3 := by
  unfold decodeN ptN
  rw [if_neg (show ¬ n = 0 by omega)]
  repeat' split
  all_goals first | rfl | (exfalso; omega) | (apply Prod.ext <;> simp only <;> omega) | (exfalso; simp_all; omega) | (simp_all; omega)

end Go.Proofs.YtonadloonidmjaaDoor.Pl

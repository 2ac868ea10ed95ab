/- Plain laws on names: the two programs' ways to split a string into letters find the same fault. Conditions: none; no program in sight. -/
import Derived.Test.YtonadloonidmjaaDoorPlain
namespace Go.Proofs.YtonadloonidmjaaDoor.Pl
open Go.Lib

theorem byteAt_out (s : ByteArray) (k : Nat) (h : s.size ≤ k) : byteAt s k = 0 := by
  have h' : s.data.size ≤ k := h
  show (s.data[k]!).toNat = 0
  rw [Array.getElem!_eq_getD, Array.getD_eq_getD_getElem?, Array.getElem?_eq_none h']
  rfl
theorem byteAt_256 (s : ByteArray) (k : Nat) : byteAt s k < 256 := (s.get! k).toNat_lt
theorem byteAt_in (s : ByteArray) (k : Nat) (h : k < s.size) : byteAt s k = (s.data[k]'h).toNat := by
  show (s.data[k]!).toNat = _
  rw [Array.getElem!_eq_getD, Array.getD_eq_getD_getElem?, Array.getElem?_eq_getElem h]
  rfl
theorem byteAt_extract (s : ByteArray) (a e k : Nat) (he : e ≤ s.size) : byteAt (s.extract a e) k = if a + k < e then byteAt s (a + k) else 0 := by
  by_cases h : a + k < e
  · rw [if_pos h]
    have h1 : k < (s.extract a e).size := by rw [ByteArray.size_extract]; omega
    rw [byteAt_in _ _ h1, byteAt_in _ _ (by omega)]
    simp
  · rw [if_neg h]
    exact byteAt_out _ _ (by rw [ByteArray.size_extract]; omega)

/-- The piece at a place takes so many bytes. -/
def wd (s : ByteArray) (i : Nat) : Nat := max (pt s i).2 1
/-- The pieces of a string from a place on. -/
def pcsF (s : ByteArray) : Nat → Nat → List ByteArray
  | 0, _ => []
  | f + 1, i => if s.size ≤ i then [] else s.extract i (i + wd s i) :: pcsF s f (i + wd s i)
def pcs (s : ByteArray) : List ByteArray := pcsF s s.size 0
/-- One letter. -/
def oneB (p : ByteArray) : Bool := decide (0 < (pt p 0).2) && decide ((pt p 0).2 = p.size)
/-- The program's way. -/
def okF (s : ByteArray) : Nat → Nat → Bool
  | 0, _ => true
  | f + 1, i => if s.size ≤ i then true else if Utf8.decode s i = (65533, 1) then false else okF s f (i + (Utf8.decode s i).2)
def okS (s : ByteArray) : Bool := okF s s.size 0

set_option maxRecDepth 100000 in
theorem ptN_le (n b0 b1 b2 b3 : Nat) (e1 : n ≤ 1 → b1 = 0) (e2 : n ≤ 2 → b2 = 0) (e3 : n ≤ 3 → b3 = 0) : (ptN n b0 b1 b2 b3).2 ≤ n := by
  unfold ptN
  repeat' split
  all_goals (simp only; omega)
theorem pt_le (s : ByteArray) (i : Nat) : (pt s i).2 ≤ s.size - i :=
  ptN_le _ _ _ _ _ (fun h => byteAt_out _ _ (by omega)) (fun h => byteAt_out _ _ (by omega)) (fun h => byteAt_out _ _ (by omega))
theorem wd_le {s : ByteArray} {i : Nat} (h : i < s.size) : i + wd s i ≤ s.size := by have := pt_le s i; unfold wd; omega
theorem wd_pos (s : ByteArray) (i : Nat) : 1 ≤ wd s i := by unfold wd; omega

/-- The model's decoding by the reference's. -/
theorem dec_pt {s : ByteArray} {i : Nat} (h : i < s.size) : Utf8.decode s i = if (pt s i).2 = 0 then (65533, 1) else pt s i := by
  rw [decode_at]
  exact ptN_law _ _ _ _ _ (by omega) (byteAt_256 s i) (byteAt_256 s _) (byteAt_256 s _) (byteAt_256 s _) (fun h => byteAt_out _ _ (by omega)) (fun h => byteAt_out _ _ (by omega)) (fun h => byteAt_out _ _ (by omega))
theorem dec_wd {s : ByteArray} {i : Nat} (h : i < s.size) : (Utf8.decode s i).2 = wd s i := by
  rw [dec_pt h]
  unfold wd
  split
  · omega
  · omega

set_option maxRecDepth 100000 in
set_option maxHeartbeats 2000000 in
theorem ptN_cut (n b0 b1 b2 b3 m : Nat) (hm : m = (ptN n b0 b1 b2 b3).2) (h0 : 0 < m) (hn : m ≤ n) :
    ptN m b0 (if 1 < m then b1 else 0) (if 2 < m then b2 else 0) (if 3 < m then b3 else 0) = ptN n b0 b1 b2 b3 := by
  by_cases c1 : b0 < 128
  · have e : ptN n b0 b1 b2 b3 = (b0, 1) := by unfold ptN; rw [if_neg (by omega), if_pos c1]
    rw [e] at hm ⊢
    subst hm
    unfold ptN; rw [if_neg (by omega), if_pos c1]
  · unfold ptN at hm
    rw [if_neg (by omega), if_neg c1] at hm
    by_cases c2 : (192 ≤ b0 ∧ b0 < 224) ∧ (128 ≤ b1 ∧ b1 < 192) ∧ 128 ≤ (b0 - 192) * 64 + b1 - 128
    · rw [if_pos c2] at hm
      subst hm
      unfold ptN
      rw [if_neg (show ¬ (2 = 0) by omega), if_neg c1, if_pos (show (1 : Nat) < 2 by omega), if_pos c2, if_neg (by omega : ¬ n = 0), if_neg c1, if_pos c2]
    · rw [if_neg c2] at hm
      by_cases c3 : (224 ≤ b0 ∧ b0 < 240) ∧ (128 ≤ b1 ∧ b1 < 192) ∧ (128 ≤ b2 ∧ b2 < 192) ∧ 2048 ≤ (b0 - 224) * 4096 + (b1 - 128) * 64 + b2 - 128 ∧
          ((b0 - 224) * 4096 + (b1 - 128) * 64 + b2 - 128 < 55296 ∨ 57343 < (b0 - 224) * 4096 + (b1 - 128) * 64 + b2 - 128)
      · rw [if_pos c3] at hm
        subst hm
        unfold ptN
        rw [if_neg (show ¬ (3 = 0) by omega), if_neg c1, if_pos (show (1 : Nat) < 3 by omega), if_pos (show (2 : Nat) < 3 by omega), if_neg c2, if_pos c3, if_neg (by omega : ¬ n = 0), if_neg c1, if_neg c2, if_pos c3]
      · rw [if_neg c3] at hm
        by_cases c4 : (240 ≤ b0 ∧ b0 < 248) ∧ (128 ≤ b1 ∧ b1 < 192) ∧ (128 ≤ b2 ∧ b2 < 192) ∧ (128 ≤ b3 ∧ b3 < 192) ∧ 65536 ≤ (b0 - 240) * 262144 + (b1 - 128) * 4096 + (b2 - 128) * 64 + b3 - 128 ∧
            (b0 - 240) * 262144 + (b1 - 128) * 4096 + (b2 - 128) * 64 + b3 - 128 ≤ 1114111
        · rw [if_pos c4] at hm
          subst hm
          unfold ptN
          rw [if_neg (show ¬ (4 = 0) by omega), if_neg c1, if_pos (show (1 : Nat) < 4 by omega), if_pos (show (2 : Nat) < 4 by omega), if_pos (show (3 : Nat) < 4 by omega), if_neg c2, if_neg c3, if_pos c4, if_neg (by omega : ¬ n = 0), if_neg c1]
        · rw [if_neg c4] at hm
          simp at hm; omega

/-- A piece by itself. -/
theorem one_piece {s : ByteArray} {i : Nat} (h : i < s.size) : oneB (s.extract i (i + wd s i)) = decide (0 < (pt s i).2) := by
  have hw := wd_le h
  have hsz : (s.extract i (i + wd s i)).size = wd s i := by rw [ByteArray.size_extract]; omega
  unfold oneB
  rw [hsz]
  by_cases hp : 0 < (pt s i).2
  · have hwd : wd s i = (pt s i).2 := by unfold wd; omega
    have e : pt (s.extract i (i + wd s i)) 0 = pt s i := by
      have hc := ptN_cut (s.size - i) (byteAt s i) (byteAt s (i + 1)) (byteAt s (i + 2)) (byteAt s (i + 3)) (wd s i) (by rw [hwd]; rfl) (by omega) (by omega)
      show ptN _ _ _ _ _ = _
      rw [hsz, byteAt_extract _ _ _ _ hw, byteAt_extract _ _ _ _ hw, byteAt_extract _ _ _ _ hw, byteAt_extract _ _ _ _ hw]
      have q1 : (i + (0 + 1) < i + wd s i) = (1 < wd s i) := propext ⟨fun h => by omega, fun h => by omega⟩
      have q2 : (i + (0 + 2) < i + wd s i) = (2 < wd s i) := propext ⟨fun h => by omega, fun h => by omega⟩
      have q3 : (i + (0 + 3) < i + wd s i) = (3 < wd s i) := propext ⟨fun h => by omega, fun h => by omega⟩
      simp only [q1, q2, q3]
      rw [if_pos (by omega)]
      exact hc
    rw [e, hwd]
    simp
  · have hz : (pt s i).2 = 0 := by omega
    have hwd : wd s i = 1 := by unfold wd; omega
    have hb : ¬ byteAt s i < 128 := fun hb => by
      have : pt s i = (byteAt s i, 1) := by unfold pt ptN; rw [if_neg (by omega), if_pos hb]
      rw [this] at hz; cases hz
    have e : (pt (s.extract i (i + wd s i)) 0).2 = 0 := by
      unfold pt
      rw [hsz, byteAt_extract _ _ _ _ hw, byteAt_extract _ _ _ _ hw, byteAt_extract _ _ _ _ hw, byteAt_extract _ _ _ _ hw, hwd]
      rw [if_pos (by omega), if_neg (by omega), if_neg (by omega), if_neg (by omega)]
      unfold ptN
      rw [if_neg (by omega)]
      rw [show i + 0 = i from rfl]
      rw [if_neg hb, if_neg (by omega), if_neg (by omega), if_neg (by omega)]
    rw [e]
    simp [hz]

/-- Both ways find the same. -/
theorem ok_same (s : ByteArray) : ∀ f i, (pcsF s f i).all oneB = okF s f i
  | 0, _ => rfl
  | f + 1, i => by
    unfold pcsF okF
    by_cases h : s.size ≤ i
    · rw [if_pos h, if_pos h]; rfl
    · rw [if_neg h, if_neg h, List.all_cons, one_piece (by omega), ok_same s f, dec_wd (by omega), dec_pt (by omega)]
      by_cases hz : (pt s i).2 = 0
      · rw [if_pos hz, if_pos rfl, hz]; rfl
      · rw [if_neg hz, decide_eq_true (by omega : 0 < (pt s i).2), Bool.true_and]
        have hne : pt s i ≠ (65533, 1) := fun e => by
          have h1 : (pt s i).2 = 1 := by rw [e]
          have h2 : (pt s i).1 = 65533 := by rw [e]
          have : ∀ n b0 b1 b2 b3, (ptN n b0 b1 b2 b3).2 = 1 → (ptN n b0 b1 b2 b3).1 < 128 := by
            intro n b0 b1 b2 b3
            unfold ptN
            repeat' split
            all_goals (simp only; omega)
          have := this _ _ _ _ _ h1
          unfold pt at h2
          omega
        rw [if_neg hne]

/-- Where a name stands first; -1: nowhere. -/
def posN (x : ByteArray) : List ByteArray → Option Nat
  | [] => none
  | y :: r => if y = x then some 0 else (posN x r).map (· + 1)
def posI (t : List ByteArray) (x : ByteArray) : Int := match posN x t with | some i => i | none => -1

theorem posN_some {x : ByteArray} : ∀ {t : List ByteArray} {k : Nat}, t[k]? = some x → (∀ j, j < k → t.getD j ⟨#[]⟩ ≠ x) → posN x t = some k
  | [], k, h, _ => by simp at h
  | y :: r, 0, h, _ => by simp at h; simp [posN, h]
  | y :: r, k + 1, h, hp => by
    have h0 : y ≠ x := by simpa using hp 0 (by omega)
    rw [posN, if_neg h0, posN_some (t := r) (k := k) (by simpa using h) (fun j hj => by simpa using hp (j + 1) (by omega))]
    rfl
theorem posN_none {x : ByteArray} : ∀ {t : List ByteArray}, (∀ y ∈ t, y ≠ x) → posN x t = none
  | [], _ => rfl
  | y :: r, h => by
    rw [posN, if_neg (h y (by simp)), posN_none (t := r) (fun z hz => h z (by simp [hz]))]
    rfl
theorem posN_spec {x : ByteArray} : ∀ {t : List ByteArray} {k : Nat}, posN x t = some k → t[k]? = some x ∧ ∀ j, j < k → t.getD j ⟨#[]⟩ ≠ x
  | [], k, h => by simp [posN] at h
  | y :: r, k, h => by
    rw [posN] at h
    by_cases e : y = x
    · rw [if_pos e] at h; injection h with h; subst h
      exact ⟨by simp [e], fun j hj => absurd hj (by omega)⟩
    · rw [if_neg e] at h
      cases hr : posN x r with
      | none => rw [hr] at h; cases h
      | some m =>
        rw [hr] at h; injection h with h; subst h
        obtain ⟨h1, h2⟩ := posN_spec hr
        refine ⟨by simpa using h1, fun j hj => ?_⟩
        cases j with
        | zero => simpa using e
        | succ j =>
          have hj' : j + 1 < m + 1 := hj
          simpa using h2 j (by omega)
theorem posN_mem {x : ByteArray} {t : List ByteArray} : posN x t = none ↔ x ∉ t := by
  constructor
  · intro h hm
    induction t with
    | nil => simp at hm
    | cons y r ih =>
      rw [posN] at h
      by_cases e : y = x
      · rw [if_pos e] at h; cases h
      · rw [if_neg e] at h
        cases hr : posN x r with
        | none =>
          rcases List.mem_cons.1 hm with e' | hm
          · exact e e'.symm
          · exact ih hr hm
        | some m => rw [hr] at h; cases h
  · intro h
    exact posN_none fun y hy e => h (e ▸ hy)

theorem posI_some {t : List ByteArray} {x : ByteArray} {k : Nat} (h : t[k]? = some x) (hp : ∀ j, j < k → t.getD j ⟨#[]⟩ ≠ x) : posI t x = k := by
  unfold posI; rw [posN_some h hp]
theorem posI_none {t : List ByteArray} {x : ByteArray} (h : ∀ y ∈ t, y ≠ x) : posI t x = -1 := by
  unfold posI; rw [posN_none h]
end Go.Proofs.YtonadloonidmjaaDoor.Pl

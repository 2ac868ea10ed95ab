/- Plain laws on tokens: the longest name that stands at a place, found in two ways. Conditions: unlike names that are not empty. -/
import Derived.Test.YtfdmpbihepkjnaaDoorPlain3
namespace Go.Proofs.YtfdmpbihepkjnaaDoor.Pl

/-- A name stands at a place of a text. -/
def standsB (x : ByteArray) (a : Nat) (y : ByteArray) : Bool := decide (a + y.size ≤ x.size) && decide (x.extract a (a + y.size) = y)
/-- The reference's loop: (the symbol, the length of its name); (0, 0): none. -/
def rl (t : List ByteArray) (x : ByteArray) (a : Nat) : Nat → Nat × Nat
  | 0 => (0, 0)
  | k + 1 => if (rl t x a k).2 < (t.getD k ⟨#[]⟩).size ∧ standsB x a (t.getD k ⟨#[]⟩) = true then (k + 1, (t.getD k ⟨#[]⟩).size) else rl t x a k

theorem rl_law (t : List ByteArray) (x : ByteArray) (a : Nat) : ∀ k,
    (rl t x a k = (0, 0) ∧ ∀ j, j < k → standsB x a (t.getD j ⟨#[]⟩) = true → (t.getD j ⟨#[]⟩).size = 0) ∨
    ∃ i, i < k ∧ rl t x a k = (i + 1, (t.getD i ⟨#[]⟩).size) ∧ 0 < (t.getD i ⟨#[]⟩).size ∧ standsB x a (t.getD i ⟨#[]⟩) = true ∧ ∀ j, j < k → standsB x a (t.getD j ⟨#[]⟩) = true → (t.getD j ⟨#[]⟩).size ≤ (t.getD i ⟨#[]⟩).size
  | 0 => .inl ⟨rfl, fun j hj => absurd hj (by omega)⟩
  | k + 1 => by
    have ih := rl_law t x a k
    rw [rl]
    by_cases c : (rl t x a k).2 < (t.getD k ⟨#[]⟩).size ∧ standsB x a (t.getD k ⟨#[]⟩) = true
    · rw [if_pos c]
      refine .inr ⟨k, by omega, rfl, by omega, c.2, fun j hj hs => ?_⟩
      by_cases e : j = k
      · subst e; exact Nat.le_refl _
      · rcases ih with ⟨h1, h2⟩ | ⟨i, h1, h2, h3, h4, h5⟩
        · have := h2 j (by omega) hs; omega
        · have := h5 j (by omega) hs
          have h6 := c.1
          rw [h2] at h6
          simp only at h6
          omega
    · rw [if_neg c]
      rcases ih with ⟨h1, h2⟩ | ⟨i, h1, h2, h3, h4, h5⟩
      · refine .inl ⟨h1, fun j hj hs => ?_⟩
        by_cases e : j = k
        · subst e
          rw [h1] at c
          simp only at c
          refine Classical.byContradiction fun hz => c ⟨by omega, hs⟩
        · exact h2 j (by omega) hs
      · refine .inr ⟨i, by omega, h2, h3, h4, fun j hj hs => ?_⟩
        by_cases e : j = k
        · subst e
          rw [h2] at c
          simp only at c
          refine Classical.byContradiction fun hz => c ⟨by omega, hs⟩
        · exact h5 j (by omega) hs

/-- The longest name. -/
def lgN (t : List ByteArray) : Nat → Nat
  | 0 => 0
  | k + 1 => max (lgN t k) (t.getD k ⟨#[]⟩).size
theorem lgN_le (t : List ByteArray) : ∀ k j, j < k → (t.getD j ⟨#[]⟩).size ≤ lgN t k
  | 0, j, h => absurd h (by omega)
  | k + 1, j, h => by
    rw [lgN]
    by_cases e : j = k
    · subst e; omega
    · have := lgN_le t k j (by omega); omega
/-- The first length that the program tries at a place. -/
def mostN (t : List ByteArray) (x : ByteArray) (a : Nat) : Nat := min (lgN t t.length) (x.size - a)

theorem stands_ext {x y : ByteArray} {a : Nat} (h : standsB x a y = true) : a + y.size ≤ x.size ∧ x.extract a (a + y.size) = y := by
  unfold standsB at h; simpa using h
theorem ext_size {x : ByteArray} {a l : Nat} (h : a + l ≤ x.size) : (x.extract a (a + l)).size = l := by rw [ByteArray.size_extract]; omega

theorem getD_mem {t : List ByteArray} {i : Nat} (h : i < t.length) : t[i]? = some (t.getD i ⟨#[]⟩) := by
  rw [List.getD_eq_getElem?_getD, List.getElem?_eq_getElem h]; rfl

/-- The program finds what the reference finds. -/
theorem rl_found {t : List ByteArray} {x : ByteArray} {a l k : Nat} (hn : t.Nodup) (hl : 1 ≤ l) (hm : l ≤ mostN t x a) (ha : a < x.size) (hp : posN (x.extract a (a + l)) t = some k)
    (hno : ∀ l', l < l' → l' ≤ mostN t x a → posN (x.extract a (a + l')) t = none) : rl t x a t.length = (k + 1, l) := by
  have hmx : mostN t x a ≤ x.size - a := by unfold mostN; omega
  obtain ⟨q1, _⟩ := posN_spec hp
  have hk : k < t.length := (List.getElem?_eq_some_iff.1 q1).1
  have hy : t.getD k ⟨#[]⟩ = x.extract a (a + l) := by rw [List.getD_eq_getElem?_getD, q1]; rfl
  have hsz : (x.extract a (a + l)).size = l := ext_size (by omega)
  have hst : standsB x a (t.getD k ⟨#[]⟩) = true := by unfold standsB; rw [hy, hsz]; simp; omega
  rcases rl_law t x a t.length with ⟨h1, h2⟩ | ⟨i, h1, h2, h3, h4, h5⟩
  · have := h2 k hk hst; rw [hy, hsz] at this; omega
  · obtain ⟨s1, s2⟩ := stands_ext h4
    have hle := h5 k hk hst
    rw [hy, hsz] at hle
    have hlg := lgN_le t t.length i h1
    have hge : ¬ l < (t.getD i ⟨#[]⟩).size := fun hlt => by
      have := hno _ hlt (by unfold mostN; omega)
      rw [s2] at this
      exact posN_mem.1 this (List.mem_of_getElem? (getD_mem h1))
    have he : (t.getD i ⟨#[]⟩).size = l := by omega
    rw [h2, he]
    rw [he] at s2
    have : posN (x.extract a (a + l)) t = some i := posN_nodup hn (by rw [s2]; exact getD_mem h1)
    rw [hp] at this
    injection this with this
    rw [this]
theorem rl_lost {t : List ByteArray} {x : ByteArray} {a : Nat} (hno : ∀ l', 1 ≤ l' → l' ≤ mostN t x a → posN (x.extract a (a + l')) t = none) : rl t x a t.length = (0, 0) := by
  rcases rl_law t x a t.length with ⟨h1, _⟩ | ⟨i, h1, h2, h3, h4, h5⟩
  · exact h1
  · obtain ⟨s1, s2⟩ := stands_ext h4
    have hlg := lgN_le t t.length i h1
    have := hno _ h3 (by unfold mostN; omega)
    rw [s2] at this
    exact absurd (List.mem_of_getElem? (getD_mem h1)) (posN_mem.1 this)
theorem rl_step {t : List ByteArray} {x : ByteArray} {a s n : Nat} (h : rl t x a t.length = (s, n)) (hs : s ≠ 0) : 1 ≤ n ∧ a + n ≤ x.size ∧ s ≤ t.length ∧ (t.getD (s - 1) ⟨#[]⟩).size = n ∧ x.extract a (a + n) = t.getD (s - 1) ⟨#[]⟩ := by
  rcases rl_law t x a t.length with ⟨h1, _⟩ | ⟨i, h1, h2, h3, h4, h5⟩
  · rw [h] at h1; injection h1 with h1; exact absurd h1 hs
  · rw [h] at h2
    injection h2 with e1 e2
    subst e1
    obtain ⟨s1, s2⟩ := stands_ext h4
    subst e2
    exact ⟨h3, s1, h1, rfl, s2⟩

/-- What Tokens hands back, from a place on. -/
def fin (acc : List Int) : List Int × Int × Int := if 200 < acc.length then ([], 0, 2) else (acc, 0, 0)
def tokF (t : List ByteArray) (x : ByteArray) : Nat → Nat → List Int → List Int × Int × Int
  | 0, _, acc => fin acc
  | f + 1, a, acc => if x.size ≤ a then fin acc else if (rl t x a t.length).1 = 0 then ([], (a : Int), 3) else tokF t x f (a + (rl t x a t.length).2) (acc ++ [((rl t x a t.length).1 : Int)])
def tok (vT : List ByteArray → Bool) (t : List ByteArray) (x : ByteArray) : List Int × Int × Int :=
  if vT t = false then ([], 0, 1) else if 16384 < x.size then ([], 0, 2) else tokF t x x.size 0 []
theorem tokF_end {t : List ByteArray} {x : ByteArray} {f a : Nat} {acc : List Int} (h : x.size ≤ a) : tokF t x f a acc = fin acc := by
  cases f with
  | zero => rfl
  | succ f => rw [tokF, if_pos h]
end Go.Proofs.YtfdmpbihepkjnaaDoor.Pl

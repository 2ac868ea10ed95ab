/- The plain law of chapter 39: what the program's division of a word computes and what the reference's computes are one list of syllables. Conditions: none; plain Lean, no program in sight. -/
import Derived.Test.YtockfkmemoggiaaPure
namespace Go.Proofs.Ytockfkmemoggiaa.Pl

/-- Classes of sounds. -/
structure Snd where
  vow : List Int
  con : List Int
  ons : List (List Int)

/-- The piece of a list between two places. -/
def cut {α : Type} (x : List α) (i j : Nat) : List α := (x.take j).drop i

def hasB (l : List Int) (s : Int) : Bool := decide (s ∈ l)
def listedB (l : List (List Int)) (x : List Int) : Bool := decide (x ∈ l)
def goodSym (s : Int) : Prop := 1 ≤ s ∧ s ≤ 500
instance (s : Int) : Decidable (goodSym s) := by unfold goodSym; infer_instance

/-- Back over the places at which 'p' holds. -/
def back (p : Int → Bool) (x : List Int) : Nat → Nat
  | 0 => 0
  | i + 1 => if p (x.getD i 0) then back p x i else i + 1

/-- The reference's loop on the onsets: 'j' places looked at. -/
def atR (ons : List (List Int)) (x : List Int) (i : Nat) : Nat → Nat
  | 0 => i - 1
  | j + 1 => if listedB ons (cut x (i - 2 - j) i) then i - 2 - j else atR ons x i j

/-- The reference's loop on the word: (where the syllables begin, where the consonants behind the last nucleus begin). -/
def sts (s : Snd) (x : List Int) : Nat → List Nat × Int
  | 0 => ([0], -1)
  | i + 1 =>
    if hasB s.vow (x.getD i 0) then
      (if 0 ≤ (sts s x i).2 ∧ (sts s x i).2 < i then (sts s x i).1 ++ [atR s.ons x i (i - 1 - (sts s x i).2.toNat)] else (sts s x i).1, (i + 1 : Nat))
    else sts s x i

/-- The pieces of a word between starts, the last ending at 'e'. -/
def pieces (x : List Int) : List Nat → Nat → List (List Int)
  | [], _ => []
  | [a], e => [cut x a e]
  | a :: b :: r, e => cut x a b :: pieces x (b :: r) e

/-- The reference's syllables. -/
def sylR (s : Snd) (x : List Int) : List (List Int) := if x = [] then [] else pieces x (sts s x x.length).1 x.length

/-- The program's test of an onset. -/
def beginsB (s : Snd) (l : List Int) : Bool := decide (l.length = 1) || (decide (0 < l.length) && decide (l.length ≤ 4) && listedB s.ons l)

/-- The program's loop on the onsets: 'n' lengths looked at. -/
def atP (s : Snd) (x : List Int) (i : Nat) : Nat → Nat
  | 0 => i
  | n + 1 => if beginsB s (cut x (i - (n + 1)) i) then i - (n + 1) else atP s x i n

/-- One round of the program's division of the first 'e' symbols: none: the last round. -/
def cutAt (s : Snd) (x : List Int) (e : Nat) : Option Nat :=
  let i := back (hasB s.vow) x (back (hasB s.con) x e)
  let k := back (hasB s.con) x i
  if k = 0 then none else some (atP s x i (min 4 (i - k)))

/-- The program's division, from the end. -/
def dv (s : Snd) (x : List Int) : Nat → Nat → List (List Int) → List (List Int)
  | 0, _, acc => acc
  | f + 1, e, acc =>
    match cutAt s x e with
    | none => if 0 < e then acc ++ [cut x 0 e] else acc
    | some a => dv s x f a (acc ++ [cut x a e])

def sylP (s : Snd) (x : List Int) : List (List Int) := (dv s x (x.length + 1) x.length []).reverse

theorem back_le (p : Int → Bool) (x : List Int) : ∀ i, back p x i ≤ i
  | 0 => Nat.le_refl _
  | i + 1 => by
    unfold back
    split
    · have := back_le p x i; omega
    · exact Nat.le_refl _

theorem back_in (p : Int → Bool) (x : List Int) : ∀ i j, back p x i ≤ j → j < i → p (x.getD j 0) = true
  | 0, _, _, h => absurd h (by omega)
  | i + 1, j, h, hj => by
    unfold back at h
    split at h
    · rename_i hp
      by_cases e : j = i
      · subst e; exact hp
      · exact back_in p x i j h (by omega)
    · omega

theorem back_stop (p : Int → Bool) (x : List Int) : ∀ i, 0 < back p x i → p (x.getD (back p x i - 1) 0) = false
  | 0, h => absurd h (by simp [back])
  | i + 1, h => by
    unfold back at h ⊢
    split
    · rename_i hp
      rw [if_pos hp] at h
      exact back_stop p x i h
    · rename_i hp
      simpa using hp

/-- A word of these sounds. -/
def Wd (s : Snd) (x : List Int) : Prop := ∀ j, j < x.length → (hasB s.vow (x.getD j 0) = true ∨ hasB s.con (x.getD j 0) = true)
/-- No sound is both. -/
def Ap (s : Snd) : Prop := ∀ c, ¬ (hasB s.vow c = true ∧ hasB s.con c = true)

section
variable {s : Snd} {x : List Int}

theorem vow_of (hw : Wd s x) {j : Nat} (hj : j < x.length) (h : hasB s.con (x.getD j 0) = false) : hasB s.vow (x.getD j 0) = true := by
  rcases hw j hj with h' | h'
  · exact h'
  · rw [h] at h'; cases h'
theorem con_of (hw : Wd s x) {j : Nat} (hj : j < x.length) (h : hasB s.vow (x.getD j 0) = false) : hasB s.con (x.getD j 0) = true := by
  rcases hw j hj with h' | h'
  · rw [h] at h'; cases h'
  · exact h'
theorem not_vow (ha : Ap s) {c : Int} (h : hasB s.con c = true) : hasB s.vow c = false := by
  cases hv : hasB s.vow c
  · rfl
  · exact absurd ⟨hv, h⟩ (ha c)

/-- Over consonants the reference's loop stands still. -/
theorem sts_cons (ha : Ap s) (a : Nat) : ∀ d, (∀ j, a ≤ j → j < a + d → hasB s.con (x.getD j 0) = true) → sts s x (a + d) = sts s x a
  | 0, _ => rfl
  | d + 1, h => by
    have hi := h (a + d) (by omega) (by omega)
    have e : sts s x (a + (d + 1)) = sts s x (a + d) := by
      show sts s x (a + d + 1) = _
      rw [sts.eq_2, if_neg (by rw [not_vow ha hi]; simp)]
    rw [e]
    exact sts_cons ha a d fun j h1 h2 => h j h1 (by omega)

/-- Where the consonants behind the last nucleus begin. -/
theorem sts_last (ha : Ap s) (hw : Wd s x) : ∀ i, i ≤ x.length → (sts s x i).2 = if back (hasB s.con) x i = 0 then -1 else (back (hasB s.con) x i : Int)
  | 0, _ => by simp [sts, back]
  | i + 1, hi => by
    unfold sts back
    by_cases hc : hasB s.con (x.getD i 0) = true
    · rw [if_pos hc, if_neg (by rw [not_vow ha hc]; simp)]
      exact sts_last ha hw i (by omega)
    · rw [if_neg hc, if_pos (vow_of hw (by omega) (by simpa using hc))]
      simp

/-- Inside a nucleus nothing is pushed. -/
theorem sts_vow (a : Nat) (hv : hasB s.vow (x.getD a 0) = true) : ∀ d, (∀ j, a ≤ j → j < a + 1 + d → hasB s.vow (x.getD j 0) = true) → (sts s x (a + 1 + d)).1 = (sts s x (a + 1)).1 ∧ (sts s x (a + 1 + d)).2 = (a + 1 + d : Nat)
  | 0, _ => by
    refine ⟨rfl, ?_⟩
    show (sts s x (a + 1)).2 = _
    rw [sts.eq_2, if_pos hv]
  | d + 1, h => by
    obtain ⟨h1, h2⟩ := sts_vow a hv d fun j h3 h4 => h j h3 (by omega)
    have hi := h (a + 1 + d) (by omega) (by omega)
    have e : sts s x (a + 1 + (d + 1)) = sts s x (a + 1 + d + 1) := rfl
    rw [e]
    have e2 : sts s x (a + 1 + d + 1) = ((sts s x (a + 1 + d)).1, ((a + 1 + d + 1 : Nat) : Int)) := by
      rw [sts.eq_2, if_pos hi, h2, if_neg (by omega)]
    rw [e2]
    exact ⟨h1, by simp; omega⟩

/-- The two searches for the longest onset. -/
theorem at_same (hlen : ∀ o ∈ s.ons, 1 ≤ o.length ∧ o.length ≤ 4) (i k : Nat) (hk : k < i) (hi : i ≤ x.length) :
    atR s.ons x i (i - 1 - k) = atP s x i (min 4 (i - k)) := by
  have cl : ∀ n, n ≤ i → (cut x (i - n) i).length = n := by
    intro n hn; unfold cut; rw [List.length_drop, List.length_take]; omega
  have b1 : beginsB s (cut x (i - 1) i) = true := by unfold beginsB; rw [cl 1 (by omega)]; simp
  have bn : ∀ n, 2 ≤ n → n ≤ 4 → n ≤ i → beginsB s (cut x (i - n) i) = listedB s.ons (cut x (i - n) i) := by
    intro n h2 h4 hn
    unfold beginsB
    rw [cl n hn]
    have : decide (n = 1) = false := by simp; omega
    rw [this]
    simp; omega
  have big : ∀ n, 4 < n → n ≤ i → listedB s.ons (cut x (i - n) i) = false := by
    intro n h4 hn
    unfold listedB
    rw [decide_eq_false_iff_not]
    intro hm
    have := (hlen _ hm).2
    rw [cl n hn] at this
    omega
  -- j places looked at by the reference are the lengths 2 .. j + 1
  have key : ∀ j, j + 1 ≤ i → atR s.ons x i j = atP s x i (min 4 (j + 1)) := by
    intro j
    induction j with
    | zero =>
      intro _
      show i - 1 = atP s x i 1
      unfold atP
      rw [if_pos b1]
    | succ j ih =>
      intro hj
      have e : i - 2 - j = i - (j + 2) := by omega
      unfold atR
      rw [e, ih (by omega)]
      by_cases h4 : 4 < j + 2
      · rw [if_neg (by rw [big (j + 2) h4 (by omega)]; simp)]
        congr 1
        omega
      · have m1 : min 4 (j + 1 + 1) = j + 1 + 1 := by omega
        have m2 : min 4 (j + 1) = j + 1 := by omega
        rw [m1, m2]
        conv => rhs; unfold atP
        rw [bn (j + 1 + 1) (by omega) (by omega) (by omega)]
  have := key (i - 1 - k) (by omega)
  rw [this]
  congr 1
  omega

theorem atP_lt (i : Nat) (hi : i ≤ x.length) : ∀ n, 1 ≤ n → n ≤ i → i - n ≤ atP s x i n ∧ atP s x i n < i := by
  have b1 : 1 ≤ i → beginsB s (cut x (i - 1) i) = true := by
    intro h1
    unfold beginsB cut; rw [List.length_drop, List.length_take]
    have : min i x.length - (i - 1) = 1 := by omega
    rw [this]; simp
  intro n
  induction n with
  | zero => intro h; omega
  | succ n ih =>
    intro _ hn
    unfold atP
    split
    · omega
    · rename_i hb
      rcases Nat.eq_zero_or_pos n with h0 | h0
      · subst h0; exact absurd (b1 (by omega)) hb
      · have := ih h0 (by omega); omega

/-- One round. -/
theorem sts_cut (ha : Ap s) (hw : Wd s x) (hlen : ∀ o ∈ s.ons, 1 ≤ o.length ∧ o.length ≤ 4) (e : Nat) (he : e ≤ x.length) :
    (cutAt s x e = none → (sts s x e).1 = [0]) ∧ (∀ a, cutAt s x e = some a → 0 < a ∧ a < e ∧ (sts s x e).1 = (sts s x a).1 ++ [a]) := by
  generalize h1 : back (hasB s.con) x e = i1
  generalize h2 : back (hasB s.vow) x i1 = i
  generalize h3 : back (hasB s.con) x i = k
  have l1 : i1 ≤ e := by rw [← h1]; exact back_le _ _ _
  have l2 : i ≤ i1 := by rw [← h2]; exact back_le _ _ _
  have l3 : k ≤ i := by rw [← h3]; exact back_le _ _ _
  have s1 : sts s x e = sts s x i1 := by
    have := sts_cons (s := s) (x := x) ha i1 (e - i1) fun j hj hj2 => back_in (hasB s.con) x e j (by omega) (by omega)
    rwa [show i1 + (e - i1) = e by omega] at this
  have hz : ∀ m, m ≤ x.length → back (hasB s.con) x m = 0 → (sts s x m).1 = [0] := by
    intro m _ hb
    have := sts_cons (s := s) (x := x) ha 0 m fun j _ hj2 => back_in (hasB s.con) x m j (by omega) (by omega)
    rw [show 0 + m = m by omega] at this
    rw [this]; rfl
  have hcut : cutAt s x e = if k = 0 then none else some (atP s x i (min 4 (i - k))) := by
    unfold cutAt; simp only [h1, h2, h3]
  -- the nucleus
  have s2 : 0 < i1 → (sts s x e).1 = (sts s x (i + 1)).1 ∧ hasB s.vow (x.getD i 0) = true ∧ i < i1 := by
    intro hp
    have hv1 : hasB s.con (x.getD (i1 - 1) 0) = false := by
      have := back_stop (hasB s.con) x e (by omega); rwa [h1] at this
    have hv2 := vow_of hw (by omega) hv1
    have hlt : i < i1 := by
      rcases Nat.lt_or_ge i i1 with h | h
      · exact h
      · have hi : i = i1 := by omega
        have := back_stop (hasB s.vow) x i1 (by omega)
        rw [h2, hi, hv2] at this; cases this
    have hvi := back_in (hasB s.vow) x i1 i (by omega) hlt
    have := sts_vow (s := s) (x := x) i hvi (i1 - (i + 1)) fun j hj hj2 => back_in (hasB s.vow) x i1 j (by omega) (by omega)
    rw [show i + 1 + (i1 - (i + 1)) = i1 by omega] at this
    exact ⟨by rw [s1]; exact this.1, hvi, hlt⟩
  rw [hcut]
  by_cases hk : k = 0
  · rw [if_pos hk]
    refine ⟨fun _ => ?_, fun a h => by cases h⟩
    rcases Nat.eq_zero_or_pos i1 with h0 | h0
    · exact hz e he (by omega)
    · obtain ⟨t1, t2, t3⟩ := s2 h0
      rw [t1]
      have hl := sts_last ha hw i (by omega)
      rw [h3, if_pos hk] at hl
      rw [sts, if_pos t2, hl, if_neg (by omega)]
      exact hz i (by omega) (by omega)
  · rw [if_neg hk]
    refine ⟨fun h => (by cases h), fun a h => ?_⟩
    injection h with h
    have h0 : 0 < i1 := by omega
    obtain ⟨t1, t2, t3⟩ := s2 h0
    have hki : k < i := by
      rcases Nat.lt_or_ge k i with h' | h'
      · exact h'
      · have : k = i := by omega
        have hv := back_stop (hasB s.vow) x i1 (by omega)
        rw [h2] at hv
        have hc := back_stop (hasB s.con) x i (by omega)
        rw [h3, this] at hc
        have := con_of hw (by omega) hv
        rw [hc] at this; cases this
    have hl := sts_last ha hw i (by omega)
    rw [h3, if_neg hk] at hl
    obtain ⟨b1, b2⟩ := atP_lt (s := s) (x := x) i (by omega) (min 4 (i - k)) (by omega) (by omega)
    rw [h] at b1 b2
    refine ⟨by omega, by omega, ?_⟩
    rw [t1, sts, if_pos t2, hl, if_pos (by omega)]
    simp only [Int.toNat_natCast]
    rw [at_same hlen i k hki (by omega), h]
    have := sts_cons (s := s) (x := x) ha a (i - a) fun j hj hj2 => back_in (hasB s.con) x i j (by omega) (by omega)
    rw [show a + (i - a) = i by omega] at this
    rw [this]

theorem sts_ne (i : Nat) : (sts s x i).1 ≠ [] := by
  induction i with
  | zero => simp [sts]
  | succ i ih =>
    unfold sts
    split
    · dsimp only
      split
      · simp
      · exact ih
    · exact ih

theorem pieces_snoc (l : List Nat) (hl : l ≠ []) (a e : Nat) : pieces x (l ++ [a]) e = pieces x l a ++ [cut x a e] := by
  induction l with
  | nil => exact absurd rfl hl
  | cons b r ih =>
    cases r with
    | nil => rfl
    | cons c r =>
      show cut x b c :: pieces x ((c :: r) ++ [a]) e = cut x b c :: (pieces x (c :: r) a ++ [cut x a e])
      rw [ih (by simp)]

theorem dv_eq (ha : Ap s) (hw : Wd s x) (hlen : ∀ o ∈ s.ons, 1 ≤ o.length ∧ o.length ≤ 4) : ∀ f e acc, e < f → e ≤ x.length →
    dv s x f e acc = acc ++ (if e = 0 then [] else (pieces x (sts s x e).1 e).reverse)
  | 0, e, acc, h, _ => absurd h (by omega)
  | f + 1, e, acc, h, he => by
    obtain ⟨hn, hs⟩ := sts_cut ha hw hlen e he
    unfold dv
    cases hc : cutAt s x e with
    | none =>
      have := hn hc
      by_cases h0 : e = 0
      · rw [if_pos h0]; simp [h0]
      · rw [if_neg h0, this]
        simp [pieces, Nat.pos_of_ne_zero h0]
    | some a =>
      obtain ⟨p1, p2, p3⟩ := hs a hc
      dsimp only
      rw [dv_eq ha hw hlen f a _ (by omega) (by omega), if_neg (by omega), if_neg (by omega), p3, pieces_snoc _ (sts_ne a)]
      simp

/-- THE TWO DIVISIONS ARE ONE. -/
theorem syl_same (ha : Ap s) (hw : Wd s x) (hlen : ∀ o ∈ s.ons, 1 ≤ o.length ∧ o.length ≤ 4) : sylP s x = sylR s x := by
  unfold sylP sylR
  rw [dv_eq ha hw hlen _ _ _ (by omega) (Nat.le_refl _)]
  by_cases h : x = []
  · subst h; simp
  · rw [if_neg h, if_neg (by simpa using h)]
    simp
end

/-! The reference's tests. -/
def goodC (l other : List Int) (i : Nat) : Bool := decide (1 ≤ l.getD i 0) && decide (l.getD i 0 ≤ 500) && !hasB (l.take i) (l.getD i 0) && !hasB other (l.getD i 0)
def clsB (l other : List Int) : Bool := decide (l.length ≤ 40) && allR l.length (goodC l other)
def allB (x a b : List Int) : Bool := allR x.length fun i => hasB a (x.getD i 0) || hasB b (x.getD i 0)
def goodO (s : Snd) (i : Nat) : Bool :=
  decide (1 ≤ (s.ons.getD i []).length) && decide ((s.ons.getD i []).length ≤ 4) && allB (s.ons.getD i []) s.con [] && !listedB (s.ons.take i) (s.ons.getD i [])
def validB (s : Snd) : Bool := clsB s.vow [] && clsB s.con s.vow && decide (s.ons.length ≤ 40) && allR s.ons.length (goodO s)
def wordB (s : Snd) (x : List Int) : Bool := decide (x.length ≤ 200) && allB x s.vow s.con
def markB (s : Snd) (m : Int) : Bool := decide (1 ≤ m) && decide (m ≤ 500) && !hasB s.vow m && !hasB s.con m
def sameB (a b : List Int) : Bool := decide (a = b)
def sameW (a b : List (List Int)) : Bool := decide (a = b)
def largeB (s : Snd) : Bool := decide (60 < s.vow.length) || decide (60 < s.con.length) || decide (60 < s.ons.length) || anyR s.ons.length fun i => decide (20 < (s.ons.getD i []).length)
end Go.Proofs.Ytockfkmemoggiaa.Pl

/- Plain laws on one more onset: as many syllables, and none begins later. -/
import Derived.Test.YtockfkmemoggiaaPlain2
namespace Go.Proofs.Ytockfkmemoggiaa.Pl

theorem atR_ge (ons : List (List Int)) (x : List Int) (i : Nat) : ∀ j, i - 1 - j ≤ atR ons x i j
  | 0 => Nat.le_refl _
  | j + 1 => by
    have := atR_ge ons x i j
    unfold atR
    split <;> omega
theorem atR_more {ons ons' : List (List Int)} (sub : ∀ p, listedB ons p = true → listedB ons' p = true) (x : List Int) (i : Nat) : ∀ j, atR ons' x i j ≤ atR ons x i j
  | 0 => Nat.le_refl _
  | j + 1 => by
    have ih := atR_more sub x i j
    have hge := atR_ge ons x i j
    unfold atR
    by_cases h : listedB ons (cut x (i - 2 - j) i) = true
    · rw [if_pos (sub _ h), if_pos h]
      exact Nat.le_refl _
    · rw [if_neg h]
      split
      · omega
      · exact ih

theorem sts_more {s s' : Snd} (hv : s'.vow = s.vow) (sub : ∀ p, listedB s.ons p = true → listedB s'.ons p = true) (x : List Int) : ∀ i,
    (sts s' x i).2 = (sts s x i).2 ∧ (sts s' x i).1.length = (sts s x i).1.length ∧ ∀ (k a b : Nat), (sts s x i).1[k]? = some a → (sts s' x i).1[k]? = some b → b ≤ a
  | 0 => ⟨rfl, rfl, fun k a b h1 h2 => by
    change ([0] : List Nat)[k]? = some a at h1
    change ([0] : List Nat)[k]? = some b at h2
    rw [h1] at h2
    injection h2 with h2
    omega⟩
  | i + 1 => by
    obtain ⟨h1, h2, h3⟩ := sts_more hv sub x i
    simp only [sts]
    rw [hv, h1]
    by_cases c : hasB s.vow (x.getD i 0) = true
    · rw [if_pos c, if_pos c]
      refine ⟨rfl, ?_, ?_⟩
      · dsimp only
        split
        · simp [h2]
        · exact h2
      · dsimp only
        split
        · intro k a b h4 h5
          by_cases hk : k < (sts s x i).1.length
          · rw [List.getElem?_append_left hk] at h4
            rw [List.getElem?_append_left (by omega)] at h5
            exact h3 k a b h4 h5
          · by_cases hk2 : k = (sts s x i).1.length
            · subst hk2
              rw [List.getElem?_append_right (Nat.le_refl _)] at h4
              rw [List.getElem?_append_right (by omega)] at h5
              rw [h2] at h5
              simp at h4 h5
              subst h4; subst h5
              exact atR_more sub x i _
            · have := (List.getElem?_eq_some_iff.1 h4).1
              simp at this
              omega
        · exact h3
    · rw [if_neg c, if_neg c]
      exact ⟨h1, h2, h3⟩

theorem sts_head (s : Snd) (x : List Int) : ∀ i, (sts s x i).1[0]? = some 0
  | 0 => rfl
  | i + 1 => by
    have ih := sts_head s x i
    simp only [sts]
    split
    · dsimp only
      split
      · rw [List.getElem?_append_left (by have := (List.getElem?_eq_some_iff.1 ih).1; omega)]
        exact ih
      · exact ih
    · exact ih

section
variable {s : Snd} {x : List Int}

/-- How many symbols the first k syllables have: where the next begins. -/
theorem sum_at (ha : Ap s) (hw : Wd s x) (hlen : ∀ o ∈ s.ons, 1 ≤ o.length ∧ o.length ≤ 4) (h0 : 0 < x.length) : ∀ k a, ((sts s x x.length).1 ++ [x.length])[k]? = some a →
    ((pieces x (sts s x x.length).1 x.length).take k).flatten.length = a := by
  obtain ⟨hlt, hinc⟩ := sts_inc ha hw hlen x.length x.length (Nat.le_refl _) h0 (Nat.le_refl _)
  intro k
  induction k with
  | zero =>
    intro a h
    have hh := sts_head s x x.length
    rw [List.getElem?_append_left (by have := (List.getElem?_eq_some_iff.1 hh).1; omega), hh] at h
    have h2 := Option.some.inj h
    rw [← h2]
    simp
  | succ k ih =>
    intro b hb
    have hk : k < ((sts s x x.length).1 ++ [x.length]).length := by have := (List.getElem?_eq_some_iff.1 hb).1; omega
    have ha' := List.getElem?_eq_getElem hk
    have h1 := ih _ ha'
    have h2 := hinc k _ b ha' hb
    have h3 := pieces_at x x.length _ k _ b ha' hb
    have hbn : b ≤ x.length := by
      rcases List.mem_append.1 (List.mem_of_getElem? hb) with h | h
      · exact Nat.le_of_lt (hlt b h)
      · simp at h; omega
    rw [flat_take _ k _ h3, List.length_append, h1, cut_len x _ b hbn]
    omega
end

/-- One more onset. -/
theorem onset_law {s s' : Snd} {x : List Int} (hv : s'.vow = s.vow) (sub : ∀ p, listedB s.ons p = true → listedB s'.ons p = true) (ha : Ap s) (hw : Wd s x) (hlen : ∀ o ∈ s.ons, 1 ≤ o.length ∧ o.length ≤ 4)
    (ha' : Ap s') (hw' : Wd s' x) (hlen' : ∀ o ∈ s'.ons, 1 ≤ o.length ∧ o.length ≤ 4) :
    (sylR s' x).length = (sylR s x).length ∧ ∀ k, k ≤ (sylR s x).length → ((sylR s' x).take k).flatten.length ≤ ((sylR s x).take k).flatten.length := by
  by_cases h : x = []
  · subst h; simp [sylR]
  · have h0 : 0 < x.length := List.length_pos_iff.2 h
    obtain ⟨_, m2, m3⟩ := sts_more hv sub x x.length
    have e1 : sylR s x = pieces x (sts s x x.length).1 x.length := by unfold sylR; rw [if_neg h]
    have e2 : sylR s' x = pieces x (sts s' x x.length).1 x.length := by unfold sylR; rw [if_neg h]
    rw [e1, e2, pieces_len, pieces_len]
    refine ⟨m2, fun k hk => ?_⟩
    have k1 : k < ((sts s x x.length).1 ++ [x.length]).length := by simp; omega
    have k2 : k < ((sts s' x x.length).1 ++ [x.length]).length := by simp; omega
    have g1 := List.getElem?_eq_getElem k1
    have g2 := List.getElem?_eq_getElem k2
    rw [sum_at ha hw hlen h0 k _ g1, sum_at ha' hw' hlen' h0 k _ g2]
    by_cases hkl : k < (sts s x x.length).1.length
    · have f1 := g1
      have f2 := g2
      rw [List.getElem?_append_left hkl] at f1
      rw [List.getElem?_append_left (by omega)] at f2
      exact m3 k _ _ f1 f2
    · have hkl2 : k = (sts s x x.length).1.length := by omega
      subst hkl2
      have f1 := g1
      have f2 := g2
      rw [List.getElem?_append_right (Nat.le_refl _)] at f1
      rw [List.getElem?_append_right (by omega), m2] at f2
      rw [Nat.sub_self] at f1 f2
      have f3 := f1.symm.trans f2
      injection f3 with f3
      rw [f3]
      exact Nat.le_refl _
end Go.Proofs.Ytockfkmemoggiaa.Pl

/- Plain laws on the syllables of a word: each has one nucleus, or there is only one syllable. -/
import Derived.Test.YtockfkmemoggiaaPlain2
import Derived.Test.YtockfkmemoggiaaR5
namespace Go.Proofs.Ytockfkmemoggiaa.Pl

/-- Sounds before a nucleus, a nucleus, sounds behind it. -/
theorem nuc_shape (s : Snd) (p : List Int) (c d : Nat) (hcd : c ≤ d) (h1 : ∀ j, j < c → hasB s.vow (p.getD j 0) = false) (h2 : ∀ j, c ≤ j → j < d → hasB s.vow (p.getD j 0) = true) :
    ∀ n, (∀ j, d ≤ j → j < n → hasB s.vow (p.getD j 0) = false) → nucB s p n = if n ≤ c then (0, false) else if n ≤ d then (1, true) else (if c < d then 1 else 0, false)
  | 0, _ => by simp [nucB]
  | n + 1, h3 => by
    have ih := nuc_shape s p c d hcd h1 h2 n fun j h4 h5 => h3 j h4 (by omega)
    simp only [nucB]
    by_cases a : n + 1 ≤ c
    · rw [ih, if_pos (by omega : n ≤ c), if_pos a, h1 n (by omega)]; rfl
    · by_cases b : n + 1 ≤ d
      · rw [if_neg a, if_pos b, h2 n (by omega) (by omega), ih]
        by_cases e : n ≤ c
        · rw [if_pos e]; rfl
        · rw [if_neg e, if_pos (by omega)]; rfl
      · rw [if_neg a, if_neg b, h3 n (by omega) (by omega), ih]
        by_cases e : n ≤ c
        · have : ¬ c < d := by omega
          rw [if_pos e, if_neg this]; rfl
        · rw [if_neg e]
          by_cases f : n ≤ d
          · rw [if_pos f, if_pos (by omega : c < d)]; rfl
          · rw [if_neg f]; simp

theorem cut_getD (x : List Int) (a e j : Nat) (h : j < e - a) : (cut x a e).getD j 0 = x.getD (a + j) 0 := by
  unfold cut
  rw [List.getD_eq_getElem?_getD, List.getD_eq_getElem?_getD, List.getElem?_drop, List.getElem?_take, if_pos (by omega)]

section
variable {s : Snd} {x : List Int}

/-- A piece of sounds: consonants, vowels, consonants. -/
theorem nuc_cut {a i i1 e : Nat} (ha : Ap s) (he : e ≤ x.length) (hai : a ≤ i) (hii : i ≤ i1) (hie : i1 ≤ e) (h1 : ∀ j, a ≤ j → j < i → hasB s.con (x.getD j 0) = true) (h2 : ∀ j, i ≤ j → j < i1 → hasB s.vow (x.getD j 0) = true)
    (h3 : ∀ j, i1 ≤ j → j < e → hasB s.con (x.getD j 0) = true) : (nucB s (cut x a e) (cut x a e).length).1 = if i < i1 then 1 else 0 := by
  have hl := cut_len x a e he
  have := nuc_shape s (cut x a e) (i - a) (i1 - a) (by omega) (fun j hj => by rw [cut_getD x a e j (by omega)]; exact not_vow ha (h1 _ (by omega) (by omega)))
    (fun j h4 h5 => by rw [cut_getD x a e j (by omega)]; exact h2 _ (by omega) (by omega)) (e - a) (fun j h4 h5 => by rw [cut_getD x a e j (by omega)]; exact not_vow ha (h3 _ (by omega) (by omega)))
  rw [hl, this]
  by_cases c : i < i1
  · rw [if_pos c, if_neg (by omega)]
    split
    · rfl
    · rw [if_pos (by omega)]
  · rw [if_neg c]
    split
    · rfl
    · rw [if_neg (by omega), if_neg (by omega)]

/-- The count of nuclei of a piece. -/
def nucN (s : Snd) (p : List Int) : Nat := (nucB s p p.length).1

theorem cut_nuc (ha : Ap s) (hw : Wd s x) (e : Nat) (he : e ≤ x.length) :
    (cutAt s x e = none → nucN s (cut x 0 e) ≤ 1 ∧ ((∃ j, j < e ∧ hasB s.vow (x.getD j 0) = true) → nucN s (cut x 0 e) = 1)) ∧
    (∀ a, cutAt s x e = some a → nucN s (cut x a e) = 1 ∧ ∃ j, j < a ∧ hasB s.vow (x.getD j 0) = true) := by
  generalize h1 : back (hasB s.con) x e = i1
  generalize h2 : back (hasB s.vow) x i1 = i
  generalize h3 : back (hasB s.con) x i = k
  have l1 : i1 ≤ e := by rw [← h1]; exact back_le _ _ _
  have l2 : i ≤ i1 := by rw [← h2]; exact back_le _ _ _
  have l3 : k ≤ i := by rw [← h3]; exact back_le _ _ _
  have hcut : cutAt s x e = if k = 0 then none else some (atP s x i (min 4 (i - k))) := by
    unfold cutAt; simp only [h1, h2, h3]
  have c1 : ∀ j, k ≤ j → j < i → hasB s.con (x.getD j 0) = true := fun j hj hj2 => back_in (hasB s.con) x i j (by omega) hj2
  have c2 : ∀ j, i ≤ j → j < i1 → hasB s.vow (x.getD j 0) = true := fun j hj hj2 => back_in (hasB s.vow) x i1 j (by omega) hj2
  have c3 : ∀ j, i1 ≤ j → j < e → hasB s.con (x.getD j 0) = true := fun j hj hj2 => back_in (hasB s.con) x e j (by omega) hj2
  rw [hcut]
  by_cases hk : k = 0
  · rw [if_pos hk]
    refine ⟨fun _ => ?_, fun a h => by cases h⟩
    have hn : nucN s (cut x 0 e) = if i < i1 then 1 else 0 := nuc_cut ha he (Nat.zero_le _) l2 l1 (fun j _ hj2 => c1 j (by omega) hj2) c2 c3
    rw [hn]
    refine ⟨by split <;> omega, fun ⟨j, hj, hv⟩ => ?_⟩
    by_cases c : i < i1
    · rw [if_pos c]
    · exfalso
      have hc : hasB s.con (x.getD j 0) = true := by
        by_cases hji : j < i
        · exact c1 j (by omega) hji
        · exact c3 j (by omega) hj
      rw [not_vow ha hc] at hv
      cases hv
  · rw [if_neg hk]
    refine ⟨fun h => (by cases h), fun a h => ?_⟩
    injection h with h
    have hlt : i < i1 := by
      rcases Nat.lt_or_ge i i1 with h | h
      · exact h
      · have hi : i = i1 := by omega
        have hv1 : hasB s.con (x.getD (i1 - 1) 0) = false := by
          have := back_stop (hasB s.con) x e (by omega); rwa [h1] at this
        have hv2 := vow_of hw (by omega) hv1
        have := back_stop (hasB s.vow) x i1 (by omega)
        rw [h2, hi, hv2] at this; cases this
    have hkv : hasB s.vow (x.getD (k - 1) 0) = true := by
      have := back_stop (hasB s.con) x i (by omega)
      rw [h3] at this
      exact vow_of hw (by omega) this
    have hki : k < i := by
      rcases Nat.lt_or_ge k i with h' | h'
      · exact h'
      · have : k = i := by omega
        have hv := back_stop (hasB s.vow) x i1 (by omega)
        rw [h2] at hv
        rw [this, hv] at hkv; cases hkv
    obtain ⟨b1, b2⟩ := atP_lt (s := s) (x := x) i (by omega) (min 4 (i - k)) (by omega) (by omega)
    rw [h] at b1 b2
    have hn : nucN s (cut x a e) = if i < i1 then 1 else 0 := nuc_cut ha he (by omega) l2 l1 (fun j hj hj2 => c1 j (by omega) hj2) c2 c3
    rw [hn, if_pos hlt]
    exact ⟨rfl, k - 1, by omega, hkv⟩

theorem pieces_nuc (ha : Ap s) (hw : Wd s x) (hlen : ∀ o ∈ s.ons, 1 ≤ o.length ∧ o.length ≤ 4) : ∀ n e, e ≤ n → 0 < e → e ≤ x.length →
    (∀ p ∈ pieces x (sts s x e).1 e, nucN s p ≤ 1) ∧ (1 < (pieces x (sts s x e).1 e).length → ∀ p ∈ pieces x (sts s x e).1 e, nucN s p = 1) ∧
    ((∃ j, j < e ∧ hasB s.vow (x.getD j 0) = true) → ∀ p ∈ pieces x (sts s x e).1 e, nucN s p = 1)
  | 0, e, h, h0, _ => absurd h (by omega)
  | n + 1, e, h, h0, he => by
    obtain ⟨hn, hs⟩ := sts_cut ha hw hlen e he
    obtain ⟨kn, ks⟩ := cut_nuc ha hw e he
    cases hc : cutAt s x e with
    | none =>
      rw [hn hc]
      obtain ⟨k1, k2⟩ := kn hc
      refine ⟨fun p hp => ?_, fun hl => ?_, fun hv p hp => ?_⟩
      · simp [pieces] at hp; subst hp; exact k1
      · simp [pieces] at hl
      · simp [pieces] at hp; subst hp; exact k2 hv
    | some a =>
      obtain ⟨p1, p2, p3⟩ := hs a hc
      obtain ⟨k1, k2⟩ := ks a hc
      obtain ⟨_, _, q3⟩ := pieces_nuc ha hw hlen n a (by omega) p1 (by omega)
      rw [p3, pieces_snoc _ (sts_ne a)]
      have hall : ∀ p ∈ pieces x (sts s x a).1 a ++ [cut x a e], nucN s p = 1 := fun p hp => by
        rcases List.mem_append.1 hp with hp | hp
        · exact q3 k2 p hp
        · simp at hp; subst hp; exact k1
      exact ⟨fun p hp => Nat.le_of_eq (hall p hp), fun _ => hall, fun _ => hall⟩

/-- Each syllable has one nucleus, or there is only one syllable. -/
theorem syl_nuc (ha : Ap s) (hw : Wd s x) (hlen : ∀ o ∈ s.ons, 1 ≤ o.length ∧ o.length ≤ 4) :
    (∀ p ∈ sylR s x, nucN s p ≤ 1) ∧ (1 < (sylR s x).length → ∀ p ∈ sylR s x, nucN s p = 1) := by
  unfold sylR
  by_cases h : x = []
  · rw [if_pos h]; simp
  · rw [if_neg h]
    obtain ⟨h1, h2, _⟩ := pieces_nuc ha hw hlen x.length x.length (Nat.le_refl _) (List.length_pos_iff.2 h) (Nat.le_refl _)
    exact ⟨h1, h2⟩
end
end Go.Proofs.Ytockfkmemoggiaa.Pl

/- Plain laws on the syllables of a word: written one behind the other they are the word; none is empty; the word with a mark between them. -/
import Derived.Test.YtockfkmemoggiaaPlain
namespace Go.Proofs.Ytockfkmemoggiaa.Pl

section
variable {s : Snd} {x : List Int}

theorem cut_len (x : List Int) (i j : Nat) (h : j ≤ x.length) : (cut x i j).length = j - i := by
  unfold cut; rw [List.length_drop, List.length_take]; omega
theorem cut_cut (x : List Int) (a e : Nat) (h : a ≤ e) : x.take a ++ cut x a e = x.take e := by
  unfold cut
  have : (x.take e).take a = x.take a := by rw [List.take_take]; congr 1; omega
  rw [← this, List.take_append_drop]

theorem pieces_flat (ha : Ap s) (hw : Wd s x) (hlen : ∀ o ∈ s.ons, 1 ≤ o.length ∧ o.length ≤ 4) : ∀ n e, e ≤ n → 0 < e → e ≤ x.length →
    (pieces x (sts s x e).1 e).flatten = x.take e ∧ ∀ p ∈ pieces x (sts s x e).1 e, p ≠ []
  | 0, e, h, h0, _ => absurd h (by omega)
  | n + 1, e, h, h0, he => by
    obtain ⟨hn, hs⟩ := sts_cut ha hw hlen e he
    have ne : ∀ a, a < e → cut x a e ≠ [] := fun a ha hc => by
      have := cut_len x a e he
      rw [hc] at this; simp at this; omega
    cases hc : cutAt s x e with
    | none =>
      rw [hn hc]
      refine ⟨by simp [pieces, cut], fun p hp => ?_⟩
      simp [pieces] at hp
      subst hp
      exact ne 0 h0
    | some a =>
      obtain ⟨p1, p2, p3⟩ := hs a hc
      obtain ⟨q1, q2⟩ := pieces_flat ha hw hlen n a (by omega) p1 (by omega)
      rw [p3, pieces_snoc _ (sts_ne a)]
      refine ⟨?_, fun p hp => ?_⟩
      · rw [List.flatten_append, q1]
        simp only [List.flatten_cons, List.flatten_nil, List.append_nil]
        exact cut_cut x a e (by omega)
      · rcases List.mem_append.1 hp with hp | hp
        · exact q2 p hp
        · simp at hp; subst hp; exact ne a p2

theorem syl_flat (ha : Ap s) (hw : Wd s x) (hlen : ∀ o ∈ s.ons, 1 ≤ o.length ∧ o.length ≤ 4) : (sylR s x).flatten = x ∧ ∀ p ∈ sylR s x, p ≠ [] := by
  unfold sylR
  by_cases h : x = []
  · subst h; simp
  · rw [if_neg h]
    have := pieces_flat ha hw hlen x.length x.length (Nat.le_refl _) (List.length_pos_iff.2 h) (Nat.le_refl _)
    rwa [List.take_length] at this

/-- The starts of the first e symbols lie ahead of e, one behind the other. -/
theorem sts_inc (ha : Ap s) (hw : Wd s x) (hlen : ∀ o ∈ s.ons, 1 ≤ o.length ∧ o.length ≤ 4) : ∀ n e, e ≤ n → 0 < e → e ≤ x.length →
    (∀ a ∈ (sts s x e).1, a < e) ∧ ∀ i a b, ((sts s x e).1 ++ [e])[i]? = some a → ((sts s x e).1 ++ [e])[i + 1]? = some b → a < b
  | 0, e, h, h0, _ => absurd h (by omega)
  | n + 1, e, h, h0, he => by
    obtain ⟨hn, hs⟩ := sts_cut ha hw hlen e he
    cases hc : cutAt s x e with
    | none =>
      rw [hn hc]
      refine ⟨fun a h => by simp at h; omega, fun i a b h1 h2 => ?_⟩
      match i with
      | 0 => simp at h1 h2; omega
      | i + 1 => simp at h2
    | some a =>
      obtain ⟨p1, p2, p3⟩ := hs a hc
      obtain ⟨q1, q2⟩ := sts_inc ha hw hlen n a (by omega) p1 (by omega)
      rw [p3]
      refine ⟨fun b hb => ?_, fun i b c h1 h2 => ?_⟩
      · rcases List.mem_append.1 hb with hb | hb
        · have := q1 b hb; omega
        · simp at hb; omega
      · by_cases hi : i + 1 < (sts s x a).1.length + 1
        · rw [List.getElem?_append_left (by simp; omega)] at h1 h2
          exact q2 i b c h1 h2
        · by_cases hi2 : i = (sts s x a).1.length
          · subst hi2
            rw [List.append_assoc, List.getElem?_append_right (Nat.le_refl _)] at h1
            rw [List.append_assoc, List.getElem?_append_right (by omega)] at h2
            simp at h1 h2
            omega
          · have := (List.getElem?_eq_some_iff.1 h2).1
            simp at this
            omega
end

theorem pieces_len (x : List Int) (e : Nat) : ∀ l, (pieces x l e).length = l.length
  | [] => rfl
  | [a] => rfl
  | a :: b :: r => by rw [pieces, List.length_cons, pieces_len x e (b :: r), List.length_cons, List.length_cons, List.length_cons]
theorem pieces_at (x : List Int) (e : Nat) : ∀ (l : List Nat) (i a b : Nat), (l ++ [e])[i]? = some a → (l ++ [e])[i + 1]? = some b → (pieces x l e)[i]? = some (cut x a b)
  | [], i, a, b, _, h2 => by simp at h2
  | [c], 0, a, b, h1, h2 => by simp at h1 h2; subst h1; subst h2; rfl
  | [c], i + 1, a, b, h1, h2 => by simp at h2
  | c :: d :: r, 0, a, b, h1, h2 => by simp at h1 h2; subst h1; subst h2; rfl
  | c :: d :: r, i + 1, a, b, h1, h2 => by
    rw [pieces, List.getElem?_cons_succ]
    exact pieces_at x e (d :: r) i a b (by simpa using h1) (by simpa using h2)

/-- The syllables with a mark between them, as both programs write them. -/
def joinTo (m : Int) (l : List (List Int)) : Nat → List Int
  | 0 => []
  | k + 1 => (joinTo m l k ++ if k = 0 then [] else [m]) ++ l.getD k []

theorem flat_take (l : List (List Int)) (k : Nat) (p : List Int) (h : l[k]? = some p) : (l.take (k + 1)).flatten = (l.take k).flatten ++ p := by
  rw [List.take_add_one, h]; simp
theorem joinTo_len (m : Int) (l : List (List Int)) : ∀ k, k ≤ l.length → (joinTo m l k).length ≤ (l.take k).flatten.length + k
  | 0, _ => by simp [joinTo]
  | k + 1, h => by
    have ih := joinTo_len m l k (by omega)
    have hk : l[k]? = some l[k] := List.getElem?_eq_getElem (by omega)
    rw [flat_take l k _ hk]
    have e1 : l.getD k [] = l[k] := by rw [List.getD_eq_getElem?_getD, hk]; rfl
    have e2 : (if k = 0 then ([] : List Int) else [m]).length ≤ 1 := by split <;> simp
    rw [joinTo, e1, List.length_append, List.length_append, List.length_append]
    omega
theorem flat_take_le (l : List (List Int)) : ∀ k, (l.take k).flatten.length ≤ l.flatten.length := by
  intro k
  have : l.flatten = (l.take k).flatten ++ (l.drop k).flatten := by rw [← List.flatten_append, List.take_append_drop]
  have h2 := congrArg List.length this
  rw [List.length_append] at h2
  omega
theorem flat_count (l : List (List Int)) (h : ∀ p ∈ l, p ≠ []) : l.length ≤ l.flatten.length := by
  induction l with
  | nil => simp
  | cons p r ih =>
    have hp : 0 < p.length := List.length_pos_iff.2 (h p (by simp))
    have := ih fun q hq => h q (by simp [hq])
    rw [List.flatten_cons, List.length_append, List.length_cons]; omega
end Go.Proofs.Ytockfkmemoggiaa.Pl

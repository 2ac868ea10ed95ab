/- The plain law of the library's sorts as guess uses them: an insertion sort of elements that stand in order of their tags keeps that order among equal counts; a sorted permutation is the plain law's list. Conditions: none. -/
import Derived.Test.YtonadloonidmjaaDoorGQ
import Derived.Sort.LotA
import Derived.Shelf.SlSortCmp.Insertion
namespace Go.Proofs.YtonadloonidmjaaDoor
open Go Go.Sort

theorem extract_all {α : Type} (d : Array α) : d.extract 0 d.size = d := by simp

section
variable {α : Type} [Inhabited α] {lt lt' : α → α → Bool}

theorem insInner_perm (lt : α → α → Bool) {a b : Nat} : ∀ (j : Nat) (d : Array α), a ≤ j → j < b → b ≤ d.size → PermIn a b d (insInner lt a j d)
  | 0, d, _, _, _ => by unfold insInner; exact permIn_refl d a b
  | j + 1, d, h1, h2, h3 => by
    unfold insInner
    split
    · rename_i hc
      simp only [Bool.and_eq_true, decide_eq_true_eq] at hc
      exact permIn_trans _ _ _ a b (swp_permIn d a b (j + 1) j h1 h2 (by omega) (by omega) h3) (insInner_perm lt j _ (by omega) (by omega) (by rw [swp_size]; exact h3))
    · exact permIn_refl d a b

/-- Two orders that answer alike whenever a later element is asked for an earlier one. -/
def Agr (lt lt' : α → α → Bool) (a b : Nat) (d : Array α) : Prop := ∀ p q, a ≤ p → p < q → q < b → lt d[q]! d[p]! = lt' d[q]! d[p]!

theorem insInner_agree {a : Nat} : ∀ (j : Nat) (d : Array α), j < d.size → (∀ p, a ≤ p → p < j → lt d[j]! d[p]! = lt' d[j]! d[p]!) → insInner lt a j d = insInner lt' a j d
  | 0, d, _, _ => by unfold insInner; rfl
  | j + 1, d, hj, h => by
    unfold insInner
    by_cases ha : j + 1 > a
    · rw [h j (by omega) (by omega), insInner_agree j (swp d (j + 1) j) (by rw [swp_size]; omega) fun p h1 h2 => by
        rw [swp_right d (j + 1) j (by omega), swp_other d (j + 1) j p (by omega) (by omega)]
        exact h p h1 (by omega)]
    · rw [decide_eq_false ha, Bool.false_and, Bool.false_and]
      rfl

theorem insOuter_agree {a b : Nat} : ∀ (n i : Nat) (d : Array α), b - i = n → a < i → b ≤ d.size → (∀ p q, a ≤ p → p < q → i ≤ q → q < b → lt d[q]! d[p]! = lt' d[q]! d[p]!) → insOuter lt a b i d = insOuter lt' a b i d
  | 0, i, d, hn, _, _, _ => by
    have hn : ¬ i < b := by omega
    rw [insOuter, if_neg hn, insOuter, if_neg hn]
  | n + 1, i, d, hn, ha, hb, h => by
    have hlt : i < b := by omega
    rw [insOuter, if_pos hlt, insOuter.eq_1 lt', if_pos hlt, insInner_agree i d (by omega) fun p h1 h2 => h p i h1 h2 (Nat.le_refl _) hlt]
    have hP := insInner_perm lt' (a := a) (b := i + 1) i d (by omega) (Nat.lt_succ_self _) (by omega)
    refine insOuter_agree n (i + 1) _ (by omega) (by omega) (by rw [hP.1]; exact hb) fun p q h1 h2 h3 h4 => ?_
    rw [hP.2.1 q (.inr h3)]
    by_cases hp : i + 1 ≤ p
    · rw [hP.2.1 p (.inr hp)]
      exact h p q h1 h2 (by omega) h4
    · exact permIn_all d _ a (i + 1) (fun x => lt d[q]! x = lt' d[q]! x) (by omega) hP (fun p' h5 h6 => h p' q h5 (by omega) (by omega) h4) p h1 (by omega)

theorem insertionSort_agree {a b : Nat} {d : Array α} (hb : b ≤ d.size) (h : Agr lt lt' a b d) : insertionSort lt d a b = insertionSort lt' d a b :=
  insOuter_agree (b - (a + 1)) (a + 1) d rfl (Nat.lt_succ_self _) hb fun p q h1 h2 _ h4 => h p q h1 h2 h4

theorem getB {d : Array α} {i : Nat} (h : i < d.size) : d.toList[i]? = some d[i]! := by
  rw [Array.getElem?_toList, Array.getElem?_eq_getElem h, getElem!_pos d i h]

/-- A sorted permutation is in order. -/
theorem sorted_pairwise {d d' : Array α} (hp : PermIn 0 d.size d d') (hs : SortedIn lt 0 d.size d') : d'.toList.Perm d.toList ∧ d'.toList.Pairwise fun x y => lt y x = false := by
  constructor
  · have h := hp.2.2
    rw [extract_all] at h
    have e : d'.extract 0 d.size = d' := by rw [← hp.1]; exact extract_all d'
    rwa [e] at h
  · rw [List.pairwise_iff_getElem]
    intro i j hi hj hij
    have hz := hp.1
    have hi' : i < d'.size := by simpa using hi
    have hj' : j < d'.size := by simpa using hj
    have := hs i j (Nat.zero_le _) hij (by omega)
    rw [getElem!_pos d' i hi', getElem!_pos d' j hj'] at this
    simpa using this
end

/-- The order of an answer is a strict weak one. -/
theorem lk_false (a b : En) : lkB a b = false ↔ a.2.2 < b.2.2 ∨ (a.2.2 = b.2.2 ∧ ¬ cmpB a.2.1 b.2.1 < 0) := by
  rw [← Bool.not_eq_true, lk_iff]
  constructor
  · intro h
    by_cases h1 : a.2.2 < b.2.2
    · exact .inl h1
    · by_cases h2 : a.2.2 = b.2.2
      · exact .inr ⟨h2, fun h3 => h (.inr ⟨h2, h3⟩)⟩
      · exact absurd (.inl (by omega)) h
  · rintro (h | ⟨h1, h2⟩) (h' | ⟨h1', h2'⟩)
    · omega
    · omega
    · omega
    · exact h2 h2'
theorem cmpB_ntrans {a b c : ByteArray} (h1 : ¬ cmpB a b < 0) (h2 : ¬ cmpB b c < 0) : ¬ cmpB a c < 0 := by
  rcases totB.tri a b with h | rfl | h
  · exact absurd h h1
  · exact h2
  · rcases totB.tri b c with h' | rfl | h'
    · exact absurd h' h2
    · exact h1
    · exact totB.asym (totB.trans _ _ _ h' h)
theorem swo_lk {α : Type} (x : α → En) : SWO fun p q => lkB (x p) (x q) where
  irrefl p := by
    rw [lk_false]
    exact .inr ⟨rfl, fun h => totB.ne h rfl⟩
  trans _ _ _ h1 h2 := lk_trans h1 h2
  ntrans _ _ _ h1 h2 := by
    rw [lk_false] at *
    rcases h1 with h1 | ⟨h1, h1'⟩
    · rcases h2 with h2 | ⟨h2, _⟩ <;> (left; omega)
    · rcases h2 with h2 | ⟨h2, h2'⟩
      · left; omega
      · exact .inr ⟨by omega, cmpB_ntrans h1' h2'⟩

/-- Sorted by the order of an answer: the plain law's list. -/
theorem sortL_arr {α : Type} [Inhabited α] {x : α → En} {d d' : Array α} (hp : PermIn 0 d.size d d') (hs : SortedIn (fun p q => lkB (x p) (x q)) 0 d.size d') (hd : Dt (d.toList.map x)) : d'.toList.map x = sortL (d.toList.map x) := by
  obtain ⟨h1, h2⟩ := sorted_pairwise hp hs
  have hd' : Dt (d'.toList.map x) := ((h1.symm.map x).pairwise_iff (fun h e => h e.symm)).1 hd
  refine sortL_of hd ?_ fun e => (h1.map x).mem_iff
  unfold LS Dt at *
  rw [List.pairwise_map] at *
  have h3 := hd'.and h2
  refine h3.imp fun {a b} ⟨h4, h5⟩ => ?_
  rcases lk_tri h4 with h | h
  · exact h
  · rw [h] at h5; cases h5

/-- Sorted by the order of a list of endings. -/
theorem swo_ord {α : Type} (x : α → En) : SWO fun p q => decide (ordK (kyE (x p)) (kyE (x q)) < 0) where
  irrefl p := by rw [decide_eq_false_iff_not]; exact fun h => totK.ne h rfl
  trans _ _ _ h1 h2 := by rw [decide_eq_true_iff] at *; exact totK.trans _ _ _ h1 h2
  ntrans p q r h1 h2 := by
    rw [decide_eq_false_iff_not] at *
    rcases totK.tri (kyE (x p)) (kyE (x q)) with h | h | h
    · exact absurd h h1
    · rw [h]; exact h2
    · rcases totK.tri (kyE (x q)) (kyE (x r)) with h' | h' | h'
      · exact absurd h' h2
      · rw [← h']; exact h1
      · exact totK.asym (totK.trans _ _ _ h' h)
theorem ord_arr {α : Type} [Inhabited α] {x : α → En} {d d' : Array α} (hp : PermIn 0 d.size d d') (hs : SortedIn (fun p q => decide (ordK (kyE (x p)) (kyE (x q)) < 0)) 0 d.size d') (hd : (d.toList.map x).Pairwise fun a b => kyE a ≠ kyE b) :
    SK (d'.toList.map x) ∧ (d'.toList.map x).Perm (d.toList.map x) := by
  obtain ⟨h1, h2⟩ := sorted_pairwise hp hs
  have hd' := ((h1.symm.map x).pairwise_iff (fun {a b} (h : kyE a ≠ kyE b) e => h e.symm)).1 hd
  refine ⟨?_, h1.map x⟩
  unfold SK
  rw [List.pairwise_map] at *
  refine (hd'.and h2).imp fun {a b} ⟨h4, h5⟩ => ?_
  rw [decide_eq_false_iff_not] at h5
  rcases totK.tri (kyE (x a)) (kyE (x b)) with h | h | h
  · exact h
  · exact absurd h h4
  · exact absurd h h5
end Go.Proofs.YtonadloonidmjaaDoor

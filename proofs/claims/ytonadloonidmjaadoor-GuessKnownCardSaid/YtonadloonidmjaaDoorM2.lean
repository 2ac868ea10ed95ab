/- Several texts in one: HE, HI, HJ, HM. Conditions: as each theorem says. -/
import Derived.Test.YtonadloonidmjaaDoorGS
namespace Go.Proofs.YtonadloonidmjaaDoor
open Go
open Pl

/-- All tags of A come ahead of all tags of B. -/
def TL (A B : List En) : Prop := ∀ x ∈ A, ∀ y ∈ B, cmpB x.2.1 y.2.1 < 0
/-- The count of element number i. -/
def cA (A : List En) (i : Nat) : Int := (A.getD i e0).2.2
theorem cA_of {A : List En} {i : Nat} {x : En} (h : A[i]? = some x) : cA A i = x.2.2 := by unfold cA; rw [getD_of h]
theorem lk_gt {x y : En} (_h : cmpB x.2.1 y.2.1 < 0) (hc : x.2.2 < y.2.2) : lkB y x = true := (lk_iff _ _).2 (.inl hc)
theorem lk_ge {x y : En} (h : cmpB x.2.1 y.2.1 < 0) (hc : ¬ x.2.2 < y.2.2) : lkB x y = true := (lk_iff _ _).2 (by
  by_cases h1 : y.2.2 < x.2.2
  · exact .inl h1
  · exact .inr ⟨by omega, h⟩)
theorem LS_at {A : List En} (h : LS A) {i j : Nat} {x y : En} (hij : i < j) (hi : A[i]? = some x) (hj : A[j]? = some y) : lkB x y = true := by
  obtain ⟨h1, rfl⟩ := List.getElem?_eq_some_iff.1 hi
  obtain ⟨h2, rfl⟩ := List.getElem?_eq_some_iff.1 hj
  exact List.pairwise_iff_getElem.1 h i j h1 h2 hij
theorem lk_cnt {x y : En} (h : lkB x y = true) : y.2.2 ≤ x.2.2 := by
  rcases (lk_iff _ _).1 h with h | ⟨h, _⟩ <;> omega
theorem LS_le {A : List En} (h : LS A) {i j : Nat} {x y : En} (hij : i ≤ j) (hi : A[i]? = some x) (hj : A[j]? = some y) : y.2.2 ≤ x.2.2 := by
  rcases Nat.lt_or_eq_of_le hij with h1 | rfl
  · exact lk_cnt (LS_at h h1 hi hj)
  · rw [hi] at hj; injection hj with hj; subst hj; exact Int.le_refl _
theorem LS_append {A B : List En} : LS (A ++ B) ↔ LS A ∧ LS B ∧ ∀ x ∈ A, ∀ y ∈ B, lkB x y = true := List.pairwise_append
theorem LS_parts {A : List En} (h : LS A) (i : Nat) : LS (A.take i) ∧ LS (A.drop i) ∧ ∀ x ∈ A.take i, ∀ y ∈ A.drop i, lkB x y = true := by
  rw [← List.take_append_drop i A] at h
  exact LS_append.1 h
theorem mem_take_at {A : List En} {i : Nat} {x : En} (h : x ∈ A.take i) : ∃ j, j < i ∧ A[j]? = some x := by
  obtain ⟨j, hj⟩ := List.mem_iff_getElem?.1 h
  have hl := (List.getElem?_eq_some_iff.1 hj).1
  rw [List.length_take] at hl
  exact ⟨j, by omega, by rwa [List.getElem?_take_of_lt (by omega)] at hj⟩
theorem mem_drop_at {A : List En} {i : Nat} {x : En} (h : x ∈ A.drop i) : ∃ j, i ≤ j ∧ A[j]? = some x := by
  obtain ⟨j, hj⟩ := List.mem_iff_getElem?.1 h
  rw [List.getElem?_drop] at hj
  exact ⟨i + j, by omega, hj⟩
theorem at_lt {A : List En} {i : Nat} (h : i < A.length) : ∃ x, A[i]? = some x := ⟨_, List.getElem?_eq_getElem h⟩

/-- One element put among those of the second list. -/
theorem LS_left {x : En} {B : List En} {i : Nat} (hB : LS B) (hT : TL [x] B) (h1 : 0 < i → x.2.2 < cA B (i - 1)) (h2 : i < B.length → ¬ x.2.2 < cA B i) (hi : i ≤ B.length) : LS (B.take i ++ x :: B.drop i) := by
  obtain ⟨p1, p2, p3⟩ := LS_parts hB i
  have hl : ∀ y ∈ B.take i, lkB y x = true := fun y hy => by
    obtain ⟨j, hj, hy⟩ := mem_take_at hy
    obtain ⟨z, hz⟩ := at_lt (A := B) (i := i - 1) (by omega)
    have h3 := h1 (by omega)
    rw [cA_of hz] at h3
    have h4 := LS_le hB (show j ≤ i - 1 by omega) hy hz
    exact lk_gt (hT x (by simp) y (List.mem_of_getElem? hy)) (by omega)
  have hr : ∀ y ∈ B.drop i, lkB x y = true := fun y hy => by
    obtain ⟨j, hj, hy⟩ := mem_drop_at hy
    have hjl := (List.getElem?_eq_some_iff.1 hy).1
    obtain ⟨z, hz⟩ := at_lt (A := B) (i := i) (by omega)
    have h3 := h2 (by omega)
    rw [cA_of hz] at h3
    have h4 := LS_le hB hj hz hy
    exact lk_ge (hT x (by simp) y (List.mem_of_getElem? hy)) (by omega)
  refine LS_append.2 ⟨p1, List.pairwise_cons.2 ⟨hr, p2⟩, fun y hy z hz => ?_⟩
  rcases List.mem_cons.1 hz with rfl | hz
  · exact hl y hy
  · exact p3 y hy z hz
/-- One element put among those of the first list. -/
theorem LS_right {y : En} {A : List En} {i : Nat} (hA : LS A) (hT : TL A [y]) (h1 : 0 < i → ¬ cA A (i - 1) < y.2.2) (h2 : i < A.length → cA A i < y.2.2) (hi : i ≤ A.length) : LS (A.take i ++ y :: A.drop i) := by
  obtain ⟨p1, p2, p3⟩ := LS_parts hA i
  have hl : ∀ x ∈ A.take i, lkB x y = true := fun x hx => by
    obtain ⟨j, hj, hx⟩ := mem_take_at hx
    obtain ⟨z, hz⟩ := at_lt (A := A) (i := i - 1) (by omega)
    have h3 := h1 (by omega)
    rw [cA_of hz] at h3
    have h4 := LS_le hA (show j ≤ i - 1 by omega) hx hz
    exact lk_ge (hT x (List.mem_of_getElem? hx) y (by simp)) (by omega)
  have hr : ∀ x ∈ A.drop i, lkB y x = true := fun x hx => by
    obtain ⟨j, hj, hx⟩ := mem_drop_at hx
    have hjl := (List.getElem?_eq_some_iff.1 hx).1
    obtain ⟨z, hz⟩ := at_lt (A := A) (i := i) (by omega)
    have h3 := h2 (by omega)
    rw [cA_of hz] at h3
    have h4 := LS_le hA hj hz hx
    exact lk_gt (hT x (List.mem_of_getElem? hx) y (by simp)) (by omega)
  refine LS_append.2 ⟨p1, List.pairwise_cons.2 ⟨hr, p2⟩, fun x hx z hz => ?_⟩
  rcases List.mem_cons.1 hz with rfl | hz
  · exact hl x hx
  · exact p3 x hx z hz
/-- The two halves of a merge. -/
theorem LS_join {A B C1 C2 : List En} {s e : Nat} (hA : LS A) (hB : LS B) (hT : TL A B) (hs : s ≤ A.length) (he : e ≤ B.length) (p1 : C1.Perm (A.take s ++ B.take e)) (p2 : C2.Perm (A.drop s ++ B.drop e)) (l1 : LS C1) (l2 : LS C2)
    (h1 : s < A.length → 0 < e → cA A s < cA B (e - 1)) (h2 : 0 < s → e < B.length → ¬ cA A (s - 1) < cA B e) : LS (C1 ++ C2) ∧ (C1 ++ C2).Perm (A ++ B) := by
  obtain ⟨_, _, a3⟩ := LS_parts hA s
  obtain ⟨_, _, b3⟩ := LS_parts hB e
  constructor
  · refine LS_append.2 ⟨l1, l2, fun x hx y hy => ?_⟩
    rcases List.mem_append.1 (p1.mem_iff.1 hx) with hx | hx
    · rcases List.mem_append.1 (p2.mem_iff.1 hy) with hy | hy
      · exact a3 x hx y hy
      · obtain ⟨j, hj, hx⟩ := mem_take_at hx
        obtain ⟨k, hk, hy⟩ := mem_drop_at hy
        have hkl := (List.getElem?_eq_some_iff.1 hy).1
        obtain ⟨z, hz⟩ := at_lt (A := A) (i := s - 1) (by omega)
        obtain ⟨t, ht⟩ := at_lt (A := B) (i := e) (by omega)
        have h3 := h2 (by omega) (by omega)
        rw [cA_of hz, cA_of ht] at h3
        have h4 := LS_le hA (show j ≤ s - 1 by omega) hx hz
        have h5 := LS_le hB hk ht hy
        exact lk_ge (hT x (List.mem_of_getElem? hx) y (List.mem_of_getElem? hy)) (by omega)
    · rcases List.mem_append.1 (p2.mem_iff.1 hy) with hy | hy
      · obtain ⟨j, hj, hx⟩ := mem_take_at hx
        obtain ⟨k, hk, hy⟩ := mem_drop_at hy
        have hkl := (List.getElem?_eq_some_iff.1 hy).1
        obtain ⟨z, hz⟩ := at_lt (A := A) (i := s) (by omega)
        obtain ⟨t, ht⟩ := at_lt (A := B) (i := e - 1) (by omega)
        have h3 := h1 (by omega) (by omega)
        rw [cA_of hz, cA_of ht] at h3
        have h4 := LS_le hA hk hz hy
        have h5 := LS_le hB (show j ≤ e - 1 by omega) hx ht
        exact lk_gt (hT y (List.mem_of_getElem? hy) x (List.mem_of_getElem? hx)) (by omega)
      · exact b3 x hx y hy
  · refine (p1.append p2).trans ?_
    have e1 : A ++ B = (A.take s ++ A.drop s) ++ (B.take e ++ B.drop e) := by rw [List.take_append_drop, List.take_append_drop]
    rw [e1]
    simp only [List.append_assoc]
    refine List.Perm.append_left _ ?_
    rw [← List.append_assoc, ← List.append_assoc]
    exact List.Perm.append_right _ List.perm_append_comm

/-- An element moved along. -/
def mvL {α : Type} (x : α) (L : List α) (t : Nat) : List α := L.take t ++ x :: L.drop t
section
variable {α : Type} {x z : α} {L : List α} {t : Nat}
theorem mvL_len : (mvL x L t).length = L.length + 1 := by unfold mvL; simp; omega
theorem mvL_at (h : t ≤ L.length) (i : Nat) : (mvL x L t)[i]? = if i < t then L[i]? else if i = t then some x else L[i - 1]? := by
  have hl : (L.take t).length = t := by rw [List.length_take]; omega
  unfold mvL
  by_cases h1 : i < t
  · rw [if_pos h1, List.getElem?_append_left (by omega), List.getElem?_take_of_lt h1]
  · rw [if_neg h1, List.getElem?_append_right (by omega), hl]
    by_cases h2 : i = t
    · subst h2; rw [if_pos rfl, Nat.sub_self]; rfl
    · rw [if_neg h2]
      obtain ⟨m, hm⟩ : ∃ m, i - t = m + 1 := ⟨i - t - 1, by omega⟩
      rw [hm, List.getElem?_cons_succ, List.getElem?_drop]
      congr 1; omega
theorem mvL_up (h : t < L.length) (hz : L[t]? = some z) : ((mvL x L t).set t z).set (t + 1) x = mvL x L (t + 1) := by
  apply List.ext_getElem?
  intro i
  rw [List.getElem?_set, List.getElem?_set, List.length_set, mvL_len, mvL_at (by omega), mvL_at (by omega)]
  by_cases h1 : t + 1 = i
  · subst h1
    rw [if_pos rfl, if_pos (by omega), if_neg (by omega), if_pos rfl]
  · rw [if_neg h1]
    by_cases h2 : t = i
    · subst h2
      rw [if_pos rfl, if_pos (by omega), if_pos (by omega), hz]
    · rw [if_neg h2]
      by_cases h3 : i < t
      · rw [if_pos h3, if_pos (by omega)]
      · rw [if_neg h3, if_neg (by omega), if_neg (by omega), if_neg (by omega)]
theorem mvL_dn (h : t < L.length) (hz : L[t]? = some z) : ((mvL x L (t + 1)).set (t + 1) z).set t x = mvL x L t := by
  apply List.ext_getElem?
  intro i
  rw [List.getElem?_set, List.getElem?_set, List.length_set, mvL_len, mvL_at (by omega), mvL_at (by omega)]
  by_cases h1 : t = i
  · subst h1
    rw [if_pos rfl, if_pos (by omega), if_neg (by omega), if_pos rfl]
  · rw [if_neg h1]
    by_cases h2 : t + 1 = i
    · subst h2
      rw [if_pos rfl, if_pos (by omega), if_neg (by omega), if_neg (by omega), Nat.add_sub_cancel, hz]
    · rw [if_neg h2]
      by_cases h3 : i < t
      · rw [if_pos (by omega), if_pos h3]
      · rw [if_neg (by omega), if_neg (by omega), if_neg h3, if_neg (by omega)]
theorem mvL_top : mvL x L L.length = L ++ [x] := by unfold mvL; rw [List.take_length, List.drop_length]
theorem mvL_zero : mvL x L 0 = x :: L := rfl
end
end Go.Proofs.YtonadloonidmjaaDoor
namespace Go.Proofs.YtonadloonidmjaaDoor
open Go
open Pl

/-- C is X, each block of s elements put in order. -/
inductive Bl (s : Nat) : List En → List En → Prop
  | nil : Bl s [] []
  | last {X C : List En} : 0 < X.length → X.length ≤ s → C.Perm X → LS C → Bl s X C
  | cons {X C X' C' : List En} : X.length = s → C.Perm X → LS C → Bl s X' C' → Bl s (X ++ X') (C ++ C')

theorem Bl.perm {s : Nat} {X C : List En} (h : Bl s X C) : C.Perm X := by
  induction h with
  | nil => exact List.Perm.refl _
  | last _ _ h _ => exact h
  | cons _ h _ _ ih => exact h.append ih
theorem Bl.append {s : Nat} {X C X' C' : List En} (h : Bl s X C) (h' : Bl s X' C') : (∃ k, X.length = k * s) → Bl s (X ++ X') (C ++ C') := by
  induction h with
  | nil => intro _; exact h'
  | last h0 h1 h2 h3 =>
    rintro ⟨k, hk⟩
    refine .cons ?_ h2 h3 h'
    rcases k with _ | k
    · rw [Nat.zero_mul] at hk; omega
    · rw [Nat.add_mul, Nat.one_mul] at hk; omega
  | cons h0 h1 h2 h3 ih =>
    rintro ⟨k, hk⟩
    rw [List.append_assoc, List.append_assoc]
    refine .cons h0 h1 h2 (ih ?_)
    rw [List.length_append, h0] at hk
    rcases k with _ | k
    · rw [Nat.zero_mul] at hk; exact ⟨0, by rw [Nat.zero_mul]; omega⟩
    · rw [Nat.add_mul, Nat.one_mul] at hk; exact ⟨k, by omega⟩
theorem Bl.one {s : Nat} {X C : List En} (h : Bl s X C) (hs : 0 < s) (hx : s ≤ X.length) : ∃ A A' X' C', X = A ++ X' ∧ C = A' ++ C' ∧ A.length = s ∧ A'.Perm A ∧ LS A' ∧ Bl s X' C' := by
  cases h with
  | nil => simp at hx; omega
  | last h0 h1 h2 h3 => exact ⟨X, C, [], [], by simp, by simp, by omega, h2, h3, .nil⟩
  | cons h0 h1 h2 h3 => exact ⟨_, _, _, _, rfl, rfl, h0, h1, h2, h3⟩
theorem LS_nil : LS [] := List.Pairwise.nil
theorem Bl.short {s : Nat} {X C : List En} (h : Bl s X C) (hx : X.length ≤ s) : C.Perm X ∧ LS C := by
  cases h with
  | nil => exact ⟨List.Perm.refl _, LS_nil⟩
  | last h0 h1 h2 h3 => exact ⟨h2, h3⟩
  | @cons X C X' C' h0 h1 h2 h3 =>
    have h4 : X' = [] := List.eq_nil_of_length_eq_zero (by rw [List.length_append] at hx; omega)
    subst h4
    have h5 : C' = [] := List.eq_nil_of_length_eq_zero h3.perm.length_eq
    subst h5
    rw [List.append_nil, List.append_nil]
    exact ⟨h1, h2⟩
theorem Bl.of {s : Nat} {X C : List En} (hx : X.length ≤ s) (h1 : C.Perm X) (h2 : LS C) : Bl s X C := by
  by_cases h0 : X.length = 0
  · have h4 : X = [] := List.eq_nil_of_length_eq_zero h0
    subst h4
    have h5 : C = [] := List.eq_nil_of_length_eq_zero h1.length_eq
    subst h5
    exact .nil
  · exact .last (by omega) hx h1 h2
theorem Bl.len {s : Nat} {X C : List En} (h : Bl s X C) : C.length = X.length := h.perm.length_eq

/-- Tags in order. -/
def TO (X : List En) : Prop := X.Pairwise fun a b => cmpB a.2.1 b.2.1 < 0
theorem TO.dt {X : List En} (h : TO X) : Dt X := h.imp fun h => totB.ne h
theorem TO.part {X Y Z : List En} (h : TO (X ++ (Y ++ Z))) : TO Y := (List.pairwise_append.1 (List.pairwise_append.1 h).2.1).1
theorem TO.two {X A B Z A' B' : List En} (h : TO (X ++ (A ++ (B ++ Z)))) (ha : A'.Perm A) (hb : B'.Perm B) : TL A' B' := fun x hx y hy =>
  (List.pairwise_append.1 (List.pairwise_append.1 h).2.1).2.2 x (ha.mem_iff.1 hx) y (List.mem_append_left _ (hb.mem_iff.1 hy))
theorem sort_of {X C : List En} (h : TO X) (h1 : C.Perm X) (h2 : LS C) : C = sortL X := sortL_of h.dt h2 fun _ => h1.mem_iff
theorem TL.nil_left {B : List En} : TL [] B := fun x hx => by cases hx
end Go.Proofs.YtonadloonidmjaaDoor
namespace Go.Proofs.YtonadloonidmjaaDoor
open Go Go.Sort
open Pl

theorem parts3 {α : Type} (l : List α) {a b : Nat} (hab : a ≤ b) : l = l.take a ++ ((l.drop a).take (b - a) ++ l.drop b) := by
  have e1 : (l.drop a).drop (b - a) = l.drop b := by rw [List.drop_drop]; congr 1; omega
  rw [← e1, List.take_append_drop, List.take_append_drop]
theorem ext_list {α : Type} (d : Array α) (a b : Nat) : (d.extract a b).toList = (d.toList.drop a).take (b - a) := by simp
theorem lk_of {C : List En} (h : C.Pairwise fun x y => lkB y x = false) (hd : Dt C) : LS C := by
  refine (h.and hd).imp fun {x y} ⟨h1, h2⟩ => ?_
  rcases lk_tri h2 with h3 | h3
  · exact h3
  · rw [h3] at h1; cases h1
theorem perm_seg {α : Type} [Inhabited α] {x : α → En} {d d' : Array α} {a b : Nat} {P A S : List En} (hp : PermIn a b d d') (hs : SortedIn (fun p q => lkB (x p) (x q)) a b d') (hd : d.toList.map x = P ++ (A ++ S)) (ha : a = P.length) (hb : b = P.length + A.length) (hT : TO A) :
    ∃ C, C.Perm A ∧ LS C ∧ d'.toList.map x = P ++ (C ++ S) := by
  have hab : a ≤ b := by omega
  have hl : d.size = P.length + (A.length + S.length) := by have := congrArg List.length hd; simpa using this
  have hel : ∀ i, i < a ∨ b ≤ i → d'.toList[i]? = d.toList[i]? := fun i hi => by
    by_cases h1 : i < d.size
    · rw [getB h1, getB (by rw [hp.1]; exact h1), hp.2.1 i hi]
    · have hz := hp.1
      rw [List.getElem?_eq_none (by simp; omega), List.getElem?_eq_none (by simp; omega)]
  have e1 : d'.toList.take a = d.toList.take a := by
    apply List.ext_getElem?
    intro i
    rw [List.getElem?_take, List.getElem?_take]
    split
    · exact hel i (.inl (by omega))
    · rfl
  have e2 : d'.toList.drop b = d.toList.drop b := by
    apply List.ext_getElem?
    intro i
    rw [List.getElem?_drop, List.getElem?_drop]
    exact hel _ (.inr (by omega))
  have hd3 := parts3 (d.toList.map x) hab
  have f1 : (d.toList.map x).take a = P := by rw [hd, ha, List.take_left]
  have f2 : (d.toList.map x).drop b = S := by rw [hd, hb, ← List.append_assoc, ← List.length_append, List.drop_left]
  have f3 : ((d.toList.map x).drop a).take (b - a) = A := by
    rw [hd, ha, List.drop_left, hb, Nat.add_sub_cancel_left, List.take_left]
  have hperm : ((d'.extract a b).toList.map x).Perm A := by
    have h1 := hp.2.2.map x
    rw [ext_list d, List.map_take, List.map_drop, f3] at h1
    exact h1
  refine ⟨(d'.extract a b).toList.map x, hperm, lk_of ?_ ?_, ?_⟩
  · rw [List.pairwise_map, List.pairwise_iff_getElem]
    intro i j hi hj hij
    have hz : d'.size = d.size := hp.1
    have hjb : j < b - a ∧ a + j < d'.size := by
      have := hj
      simp at this
      omega
    have hib : a + i < d'.size := by omega
    have h1 := hs (a + i) (a + j) (by omega) (by omega) (by omega)
    rw [getElem!_pos d' _ hjb.2, getElem!_pos d' _ hib] at h1
    rw [Array.getElem_toList, Array.getElem_toList, Array.getElem_extract, Array.getElem_extract]
    exact h1
  · exact (hperm.symm.pairwise_iff (fun h e => h e.symm)).1 hT.dt
  · have h3 := parts3 d'.toList hab
    rw [e1, e2, ← ext_list] at h3
    rw [h3, List.map_append, List.map_append, List.map_take, List.map_drop, f1, f2]
end Go.Proofs.YtonadloonidmjaaDoor
namespace Go.Proofs.YtonadloonidmjaaDoor
open Go
open Pl

theorem atW_snoc {g : List En} {x : List Int} {k : Nat} {y : En} (h : g[k]? = some y) : atW (g.take (k + 1)) x = atW (g.take k) x ++ (if y.1 = x then [y] else []) := by
  unfold atW
  rw [List.take_add_one, h]
  simp only [Option.toList]
  rw [List.filter_append]
  congr 1
  by_cases e : y.1 = x
  · rw [if_pos e, List.filter_cons_of_pos (by simpa using e), List.filter_nil]
  · rw [if_neg e, List.filter_cons_of_neg (by simpa using e), List.filter_nil]
theorem atW_len (g : List En) (x : List Int) : (atW g x).length ≤ g.length := List.length_filter_le _ _
theorem SK_take {g : List En} (h : SK g) (k : Nat) : SK (g.take k) := List.Pairwise.sublist (List.take_sublist _ _) h
theorem sortL_LS {l : List En} (hd : Dt l) : LS (sortL l) := (sortL_foldl l [] List.Pairwise.nil hd (fun e he => by cases he)).1
theorem Dt_nodup {l : List En} (h : Dt l) : l.Nodup := h.imp fun {a b} h e => h (by rw [e])
theorem LS_nodup {l : List En} (h : LS l) : l.Nodup := h.imp fun {a b} h e => by subst e; exact lk_asym h h
theorem sortL_perm {l : List En} (hd : Dt l) : (sortL l).Perm l := (List.perm_ext_iff_of_nodup (LS_nodup (sortL_LS hd)) (Dt_nodup hd)).2 fun e => sortL_mem hd e
theorem sortL_len {l : List En} (hd : Dt l) : (sortL l).length = l.length := (sortL_perm hd).length_eq
theorem mv_sort {l out : List En} {y : En} {t : Nat} (ho : out = sortL l) (hd : Dt (l ++ [y])) (ht : t ≤ out.length) (hhi : ∀ j z, t ≤ j → out[j]? = some z → lkB y z = true) (hlo : 0 < t → ∀ z, out[t - 1]? = some z → lkB y z = false) : mvL y out t = sortL (l ++ [y]) := by
  have hdl : Dt l := (List.pairwise_append.1 hd).1
  have hL : LS out := by rw [ho]; exact sortL_LS hdl
  have hne : ∀ z ∈ out, z.2.1 ≠ y.2.1 := fun z hz => (List.pairwise_append.1 hd).2.2 z (by rw [ho] at hz; exact (sortL_mem hdl z).1 hz) y (by simp)
  obtain ⟨p1, p2, p3⟩ := LS_parts hL t
  have h1 : ∀ z ∈ out.take t, lkB z y = true := fun z hz => by
    obtain ⟨j, hj, hz⟩ := mem_take_at hz
    obtain ⟨z0, hz0⟩ := at_lt (A := out) (i := t - 1) (by omega)
    have h2 := hlo (by omega) z0 hz0
    have h3 : lkB z0 y = true := by
      rcases lk_tri (hne z0 (List.mem_of_getElem? hz0)) with h | h
      · exact h
      · rw [h] at h2; cases h2
    by_cases e : j = t - 1
    · subst e; rw [hz] at hz0; injection hz0 with hz0; subst hz0; exact h3
    · exact lk_trans (LS_at hL (by omega) hz hz0) h3
  have h2 : ∀ z ∈ out.drop t, lkB y z = true := fun z hz => by
    obtain ⟨j, hj, hz⟩ := mem_drop_at hz
    exact hhi j z hj hz
  refine sortL_of hd ?_ fun e => ?_
  · unfold mvL
    refine LS_append.2 ⟨p1, List.pairwise_cons.2 ⟨h2, p2⟩, fun a ha b hb => ?_⟩
    rcases List.mem_cons.1 hb with rfl | hb
    · exact h1 a ha
    · exact p3 a ha b hb
  · unfold mvL
    rw [List.perm_middle.mem_iff, List.mem_cons, List.take_append_drop, List.mem_append, ho, sortL_mem hdl, List.mem_singleton]
    exact Or.comm
end Go.Proofs.YtonadloonidmjaaDoor

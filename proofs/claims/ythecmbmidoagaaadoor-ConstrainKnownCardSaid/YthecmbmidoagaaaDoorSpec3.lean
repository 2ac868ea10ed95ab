/- Plain laws of the statements' own words: within, large, many, the sums. Conditions: none; no program in sight. -/
import Derived.Test.YthecmbmidoagaaaDoorSpec2
namespace Go.Proofs.YthecmbmidoagaaaDoor.Pl

/-- Readings that are some of others, in their order: the greedy search. -/
def wit : List Rdg → List Rdg → Bool
  | [], _ => true
  | _ :: _, [] => false
  | x :: xs, y :: ys => if x = y then wit xs ys else wit (x :: xs) ys
theorem wit_of : ∀ {a b : List Rdg}, a.Sublist b → wit a b = true
  | [], b, _ => by unfold wit; rfl
  | x :: xs, [], h => by cases h
  | x :: xs, y :: ys, h => by
    unfold wit
    split
    · rename_i e
      subst e
      exact wit_of (List.cons_sublist_cons.1 h)
    · rename_i hne
      cases h with
      | cons _ h => exact wit_of h
      | cons_cons _ h => exact absurd rfl hne
theorem wit_miss {a b : List Rdg} {i k : Nat} {x y : Rdg} (hx : a[i]? = some x) (hy : b[k]? = some y) (hne : ¬ x = y) : wit (a.drop i) (b.drop k) = wit (a.drop i) (b.drop (k + 1)) := by
  obtain ⟨h1, rfl⟩ := List.getElem?_eq_some_iff.1 hx
  obtain ⟨h2, rfl⟩ := List.getElem?_eq_some_iff.1 hy
  rw [List.drop_eq_getElem_cons h1, List.drop_eq_getElem_cons h2]
  conv => lhs; unfold wit
  rw [if_neg hne]
theorem wit_hit {a b : List Rdg} {i k : Nat} {x y : Rdg} (hx : a[i]? = some x) (hy : b[k]? = some y) (he : x = y) : wit (a.drop i) (b.drop k) = wit (a.drop (i + 1)) (b.drop (k + 1)) := by
  obtain ⟨h1, rfl⟩ := List.getElem?_eq_some_iff.1 hx
  obtain ⟨h2, rfl⟩ := List.getElem?_eq_some_iff.1 hy
  rw [List.drop_eq_getElem_cons h1, List.drop_eq_getElem_cons h2]
  conv => lhs; unfold wit
  rw [if_pos he]
theorem wit_no {a b : List Rdg} {i k : Nat} {x : Rdg} (hx : a[i]? = some x) (hk : b.length ≤ k) : wit (a.drop i) (b.drop k) = false := by
  obtain ⟨h1, rfl⟩ := List.getElem?_eq_some_iff.1 hx
  rw [List.drop_eq_getElem_cons h1, List.drop_eq_nil_of_le hk]
  unfold wit; rfl
theorem wit_end {a b : List Rdg} {i k : Nat} (h : a.length ≤ i) : wit (a.drop i) (b.drop k) = true := by
  rw [List.drop_eq_nil_of_le h]; unfold wit; rfl

theorem sum_take (l : List Nat) : ∀ i, (l.take i).sum ≤ l.sum := by
  induction l with
  | nil => intro i; simp
  | cons a l ih =>
    intro i
    cases i with
    | zero => simp
    | succ i => have := ih i; simp; omega
theorem totR_snoc (l : List Coh) {i : Nat} {c : Coh} (h : l[i]? = some c) : totR (l.take (i + 1)) = totR (l.take i) + c.2.length := by
  unfold totR
  rw [List.take_add_one, h]
  simp
theorem totR_take (l : List Coh) (i : Nat) : totR (l.take i) ≤ totR l := by
  unfold totR
  rw [List.map_take]
  exact sum_take _ i
def totT (l : List Rul) : Nat := (l.map fun r => r.tests.length).sum
theorem totT_snoc (l : List Rul) {i : Nat} {c : Rul} (h : l[i]? = some c) : totT (l.take (i + 1)) = totT (l.take i) + c.tests.length := by
  unfold totT
  rw [List.take_add_one, h]
  simp
theorem totT_take (l : List Rul) (i : Nat) : totT (l.take i) ≤ totT l := by
  unfold totT
  rw [List.map_take]
  exact sum_take _ i
def largeB (l : List Coh) : Bool := decide (300 < l.length + totR l)
def manyB (l : List Rul) : Bool := decide (150 < l.length + totT l)
end Go.Proofs.YthecmbmidoagaaaDoor.Pl

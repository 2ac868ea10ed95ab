/- Plain laws on merging. Conditions: as stated; no program in sight. -/
import Derived.Test.YtfdmpbihepkjnaaDoorPlain5
namespace Go.Proofs.YtfdmpbihepkjnaaDoor.Pl

/-- One step of Merge: (the names, the numbers). -/
def mgStep (p : List ByteArray × List Int) (x : ByteArray) : List ByteArray × List Int :=
  match posN x p.1 with
  | some i => (p.1, p.2 ++ [(i : Int) + 1])
  | none => (p.1 ++ [x], p.2 ++ [(p.1.length : Int) + 1])
def mgTo (a b : List ByteArray) : Nat → List ByteArray × List Int
  | 0 => (a, [])
  | k + 1 => mgStep (mgTo a b k) (b.getD k ⟨#[]⟩)
/-- What Merge hands back. -/
def mrg (vT : List ByteArray → Bool) (a b : List ByteArray) : List ByteArray × List Int × Int :=
  if vT a && vT b then (if 500 < (mgTo a b b.length).1.length then ([], [], 2) else ((mgTo a b b.length).1, (mgTo a b b.length).2, 0)) else ([], [], 1)

theorem mg_to (a b : List ByteArray) : ∀ k, (mgTo a b k).2.length = k
  | 0 => rfl
  | k + 1 => by
    have ih := mg_to a b k
    rw [mgTo, mgStep]
    split <;> simp [ih]
theorem mg_le (a b : List ByteArray) : ∀ k, (mgTo a b k).1.length ≤ a.length + k
  | 0 => Nat.le_refl _
  | k + 1 => by
    have ih := mg_le a b k
    rw [mgTo, mgStep]
    split <;> simp <;> omega
/-- The first names stay. -/
theorem mg_pre (a b : List ByteArray) : ∀ k, ∃ r, (mgTo a b k).1 = a ++ r
  | 0 => ⟨[], by simp [mgTo]⟩
  | k + 1 => by
    obtain ⟨r, hr⟩ := mg_pre a b k
    rw [mgTo, mgStep]
    split
    · exact ⟨r, hr⟩
    · exact ⟨r ++ [b.getD k ⟨#[]⟩], by simp [hr]⟩
theorem mg_nodup {a : List ByteArray} (b : List ByteArray) (h : a.Nodup) : ∀ k, (mgTo a b k).1.Nodup
  | 0 => h
  | k + 1 => by
    have ih := mg_nodup b h k
    rw [mgTo, mgStep]
    split
    · exact ih
    · rename_i hp
      exact nodup_snoc.2 ⟨ih, posN_mem.1 hp⟩
theorem mg_all {p : ByteArray → Bool} {a b : List ByteArray} (ha : a.all p = true) (hb : b.all p = true) : ∀ k, k ≤ b.length → (mgTo a b k).1.all p = true
  | 0, _ => ha
  | k + 1, h => by
    have ih := mg_all ha hb k (by omega)
    rw [mgTo, mgStep]
    split
    · exact ih
    · rw [List.all_append, ih]
      have := List.all_eq_true.1 hb _ (List.mem_of_getElem? (getD_mem (show k < b.length by omega)))
      rw [List.all_cons, this]; rfl
theorem posN_app {x : ByteArray} {l r : List ByteArray} {k : Nat} (h : posN x l = some k) : posN x (l ++ r) = some k := by
  obtain ⟨h1, h2⟩ := posN_spec h
  have hk := (List.getElem?_eq_some_iff.1 h1).1
  refine posN_some (by rw [List.getElem?_append_left hk]; exact h1) fun j hj => ?_
  have := h2 j hj
  rw [List.getD_eq_getElem?_getD] at this ⊢
  rwa [List.getElem?_append_left (by omega)]
/-- Where a name is put, it is found. -/
theorem mg_find (a b : List ByteArray) : ∀ k, k ≤ b.length → ∀ j, j < k → ∃ i, posN (b.getD j ⟨#[]⟩) (mgTo a b k).1 = some i ∧ (mgTo a b k).2.getD j 0 = (i : Int) + 1
  | 0, _, j, hj => absurd hj (by omega)
  | k + 1, h, j, hj => by
    have hlen := mg_to a b k
    by_cases e : j = k
    · subst e
      rw [mgTo, mgStep]
      cases hp : posN (b.getD j ⟨#[]⟩) (mgTo a b j).1 with
      | some i =>
        refine ⟨i, hp, ?_⟩
        simp only
        rw [List.getD_eq_getElem?_getD, List.getElem?_append_right (by omega), hlen]
        simp
      | none =>
        refine ⟨(mgTo a b j).1.length, ?_, ?_⟩
        · simp only
          refine posN_some (by simp) fun i hi => ?_
          rw [List.getD_eq_getElem?_getD, List.getElem?_append_left hi, ← List.getD_eq_getElem?_getD]
          intro e
          exact posN_mem.1 hp (e ▸ List.mem_of_getElem? (getD_mem hi))
        · simp only
          rw [List.getD_eq_getElem?_getD, List.getElem?_append_right (by omega), hlen]
          simp
    · obtain ⟨i, h1, h2⟩ := mg_find a b k (by omega) j (by omega)
      rw [mgTo, mgStep]
      cases hp : posN (b.getD k ⟨#[]⟩) (mgTo a b k).1 with
      | some m =>
        refine ⟨i, h1, ?_⟩
        simp only
        rw [List.getD_eq_getElem?_getD, List.getElem?_append_left (by omega), ← List.getD_eq_getElem?_getD]
        exact h2
      | none =>
        refine ⟨i, posN_app h1, ?_⟩
        simp only
        rw [List.getD_eq_getElem?_getD, List.getElem?_append_left (by omega), ← List.getD_eq_getElem?_getD]
        exact h2
/-- Merging a table with itself. -/
theorem mg_self {a : List ByteArray} (h : a.Nodup) : ∀ k, k ≤ a.length → mgTo a a k = (a, (List.range k).map fun (i : Nat) => (i : Int) + 1)
  | 0, _ => rfl
  | k + 1, hk => by
    rw [mgTo, mg_self h k (by omega), mgStep]
    have hp := posN_nodup h (getD_mem (show k < a.length by omega))
    simp only
    rw [hp]
    simp [List.range_succ]
end Go.Proofs.YtfdmpbihepkjnaaDoor.Pl

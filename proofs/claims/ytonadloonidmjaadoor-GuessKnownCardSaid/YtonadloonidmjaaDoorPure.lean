/- Plain words: a test of all the numbers below n, a test of some of them. Conditions: none. -/
import Init
namespace Go.Proofs.YtonadloonidmjaaDoor

def allR (n : Nat) (p : Nat → Bool) : Bool := (List.range n).all p
theorem allR_true {n : Nat} {p : Nat → Bool} (h : ∀ j, j < n → p j = true) : allR n p = true := by
  unfold allR; rw [List.all_eq_true]; intro j hj; exact h j (List.mem_range.1 hj)
theorem allR_false {n k : Nat} {p : Nat → Bool} (hk : k < n) (h : p k = false) : allR n p = false := by
  unfold allR; rw [List.all_eq_false]; exact ⟨k, List.mem_range.2 hk, by simp [h]⟩
theorem allR_iff {n : Nat} {p : Nat → Bool} : allR n p = true ↔ ∀ j, j < n → p j = true := by
  unfold allR; rw [List.all_eq_true]; simp [List.mem_range]
def anyR (n : Nat) (p : Nat → Bool) : Bool := (List.range n).any p
theorem anyR_true {n k : Nat} {p : Nat → Bool} (hk : k < n) (h : p k = true) : anyR n p = true := by
  unfold anyR; rw [List.any_eq_true]; exact ⟨k, List.mem_range.2 hk, h⟩
theorem anyR_false {n : Nat} {p : Nat → Bool} (h : ∀ j, j < n → p j = false) : anyR n p = false := by
  unfold anyR; rw [List.any_eq_false]; intro j hj; simp [h j (List.mem_range.1 hj)]
theorem anyR_iff {n : Nat} {p : Nat → Bool} : anyR n p = true ↔ ∃ j, j < n ∧ p j = true := by
  unfold anyR; rw [List.any_eq_true]; simp [List.mem_range]

theorem getD_of {α : Type} {l : List α} {k : Nat} {x d : α} (h : l[k]? = some x) : l.getD k d = x := by
  rw [List.getD_eq_getElem?_getD, h]; rfl
theorem mem_take_iff {α : Type} {l : List α} {n : Nat} {x : α} : x ∈ l.take n ↔ ∃ j, j < n ∧ l[j]? = some x := by
  rw [List.mem_iff_getElem?]
  constructor
  · rintro ⟨j, hj⟩
    rw [List.getElem?_take] at hj
    split at hj
    · exact ⟨j, by assumption, hj⟩
    · cases hj
  · rintro ⟨j, hj, h⟩
    exact ⟨j, by rw [List.getElem?_take, if_pos hj]; exact h⟩

/-- What slices.IndexFunc gives. -/
def idxI {α : Type} (p : α → Bool) (l : List α) : Int := match l.findIdx? p with | some i => (i : Int) | none => -1
theorem idxI_some {α : Type} {p : α → Bool} {l : List α} {k : Nat} {x : α} (h : l[k]? = some x) (hp : p x = true) (hb : ∀ j, j < k → ∀ y, l[j]? = some y → p y = false) : idxI p l = k := by
  unfold idxI
  have : l.findIdx? p = some k := by
    rw [List.findIdx?_eq_some_iff_getElem]
    obtain ⟨hk, e⟩ := List.getElem?_eq_some_iff.1 h
    exact ⟨hk, by rw [e]; exact hp, fun j hj => by simpa using hb j hj _ (List.getElem?_eq_getElem (by omega))⟩
  rw [this]
theorem idxI_none {α : Type} {p : α → Bool} {l : List α} (hb : ∀ j, j < l.length → ∀ y, l[j]? = some y → p y = false) : idxI p l = -1 := by
  unfold idxI
  have : l.findIdx? p = none := by
    rw [List.findIdx?_eq_none_iff]
    intro x hx
    obtain ⟨j, hj⟩ := List.mem_iff_getElem?.1 hx
    exact hb j (List.getElem?_eq_some_iff.1 hj).1 x hj
  rw [this]
theorem idxI_any {α : Type} (p : α → Bool) (l : List α) : decide (0 ≤ idxI p l) = l.any p := by
  unfold idxI
  cases h : l.findIdx? p with
  | none =>
    have : l.any p = false := by
      rw [List.any_eq_false]; intro x hx
      have := (List.findIdx?_eq_none_iff.1 h) x hx
      simp [this]
    rw [this]; rfl
  | some i =>
    have : l.any p = true := by
      rw [List.any_eq_true]
      obtain ⟨hi, hp, _⟩ := List.findIdx?_eq_some_iff_getElem.1 h
      exact ⟨_, List.getElem_mem hi, hp⟩
    rw [this]; simp

/-- The order of words: by length, then lexicographically. -/
def lexC : List Int → List Int → Int
  | x :: xs, y :: ys => if x < y then -1 else if y < x then 1 else lexC xs ys
  | _, _ => 0
def cmpL (x y : List Int) : Int := if x.length = y.length then lexC x y else if x.length < y.length then -1 else 1

theorem lexC_at {a b : Int} : ∀ (k : Nat) (x y : List Int), (∀ j, j < k → x[j]? = y[j]?) → x[k]? = some a → y[k]? = some b →
    lexC x y = if a < b then -1 else if b < a then 1 else lexC (x.drop (k + 1)) (y.drop (k + 1))
  | _, [], _, _, h, _ => by simp at h
  | _, _ :: _, [], _, _, h => by simp at h
  | 0, x :: xs, y :: ys, _, hx, hy => by
    simp at hx hy; subst hx; subst hy; simp [lexC]
  | k + 1, x :: xs, y :: ys, h, hx, hy => by
    have h0 := h 0 (by omega)
    simp at h0; subst h0
    have := lexC_at k xs ys (fun j hj => by simpa using h (j + 1) (by omega)) (by simpa using hx) (by simpa using hy)
    rw [lexC, if_neg (by omega), if_neg (by omega), this]
    simp
theorem lexC_self : ∀ x : List Int, lexC x x = 0
  | [] => rfl
  | x :: xs => by rw [lexC, if_neg (by omega), if_neg (by omega)]; exact lexC_self xs
theorem lexC_zero : ∀ x y : List Int, x.length = y.length → lexC x y = 0 → x = y
  | [], [], _, _ => rfl
  | [], _ :: _, h, _ => by simp at h
  | _ :: _, [], h, _ => by simp at h
  | x :: xs, y :: ys, h, h0 => by
    unfold lexC at h0
    split at h0
    · omega
    · split at h0
      · omega
      · rw [lexC_zero xs ys (by simpa using h) h0]
        have : x = y := by omega
        rw [this]
theorem cmpL_zero {x y : List Int} : cmpL x y = 0 ↔ x = y := by
  constructor
  · intro h
    unfold cmpL at h
    split at h
    · rename_i hl; exact lexC_zero x y hl h
    · split at h <;> omega
  · rintro rfl; unfold cmpL; rw [if_pos rfl]; exact lexC_self x
end Go.Proofs.YtonadloonidmjaaDoor

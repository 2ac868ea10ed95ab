/- Plain laws on tables: the map of numbers. Conditions: none; no program in sight. -/
import Derived.Test.YtfdmpbihepkjnaaDoorPlain2
namespace Go.Proofs.YtfdmpbihepkjnaaDoor.Pl

/-- 'm[x] = v' on a list of entries. -/
def putN (l : List (ByteArray × Int)) (x : ByteArray) (v : Int) : List (ByteArray × Int) :=
  match posN x (l.map Prod.fst) with | some j => l.set j (x, v) | none => l ++ [(x, v)]
/-- The map of numbers, as the program fills it. -/
def numsTo (t : List ByteArray) : Nat → List (ByteArray × Int)
  | 0 => []
  | k + 1 => putN (numsTo t k) (t.getD k ⟨#[]⟩) ((k : Int) + 1)
def nums (t : List ByteArray) : List (ByteArray × Int) := numsTo t t.length
/-- The names with their numbers. -/
def idx (t : List ByteArray) : List (ByteArray × Int) := t.mapIdx fun i s => (s, (i : Int) + 1)

theorem idx_fst (t : List ByteArray) : (idx t).map Prod.fst = t := by
  apply List.ext_getElem?
  intro i
  simp [idx]
  cases t[i]? <;> rfl
theorem idx_len (t : List ByteArray) : (idx t).length = t.length := by simp [idx]
theorem idx_snoc (t : List ByteArray) (x : ByteArray) : idx (t ++ [x]) = idx t ++ [(x, (t.length : Int) + 1)] := by
  simp [idx, List.mapIdx_append]
theorem take_snoc {t : List ByteArray} {k : Nat} (h : k < t.length) : t.take (k + 1) = t.take k ++ [t.getD k ⟨#[]⟩] := by
  rw [List.take_add_one, List.getElem?_eq_getElem h, List.getD_eq_getElem?_getD, List.getElem?_eq_getElem h]
  rfl
theorem nodup_snoc {l : List ByteArray} {x : ByteArray} : (l ++ [x]).Nodup ↔ l.Nodup ∧ x ∉ l := by
  rw [List.nodup_append]
  simp
  intro _
  constructor
  · intro h hm; exact h x hm rfl
  · intro h a ha e; exact h (e ▸ ha)

theorem put_len (l : List (ByteArray × Int)) (x : ByteArray) (v : Int) : (putN l x v).length ≤ l.length + 1 := by
  unfold putN
  split <;> simp

theorem numsTo_law (t : List ByteArray) : ∀ k, k ≤ t.length → ((t.take k).Nodup → numsTo t k = idx (t.take k)) ∧ (¬ (t.take k).Nodup → (numsTo t k).length < k)
  | 0, _ => ⟨fun _ => by simp [numsTo, idx], fun h => by simp at h⟩
  | k + 1, h => by
    obtain ⟨h1, h2⟩ := numsTo_law t k (by omega)
    have hlen : (t.take k).length = k := by rw [List.length_take]; omega
    rw [take_snoc (by omega)]
    constructor
    · intro hn
      obtain ⟨n1, n2⟩ := nodup_snoc.1 hn
      rw [numsTo, h1 n1, putN, idx_fst, posN_mem.2 n2, idx_snoc, hlen]
    · intro hn
      by_cases hk : (t.take k).Nodup
      · have hm : t.getD k ⟨#[]⟩ ∈ t.take k := Classical.not_not.1 fun hm => hn (nodup_snoc.2 ⟨hk, hm⟩)
        rw [numsTo, h1 hk, putN, idx_fst]
        cases hp : posN (t.getD k ⟨#[]⟩) (t.take k) with
        | none => exact absurd hm (posN_mem.1 hp)
        | some j =>
          show ((idx (t.take k)).set j _).length < k + 1
          rw [List.length_set, idx_len, hlen]; omega
      · have := h2 hk
        have := put_len (numsTo t k) (t.getD k ⟨#[]⟩) ((k : Int) + 1)
        rw [numsTo]; omega

theorem nums_nodup {t : List ByteArray} (h : t.Nodup) : nums t = idx t := by
  have := (numsTo_law t t.length (Nat.le_refl _)).1
  rw [List.take_length] at this
  exact this h
theorem nums_len (t : List ByteArray) : (nums t).length = t.length ↔ t.Nodup := by
  have := numsTo_law t t.length (Nat.le_refl _)
  rw [List.take_length] at this
  constructor
  · intro h
    refine Classical.not_not.1 fun hn => ?_
    have := this.2 hn
    unfold nums at h; omega
  · intro h; rw [nums_nodup h, idx_len]
theorem numsTo_le (t : List ByteArray) : ∀ k, (numsTo t k).length ≤ k
  | 0 => by simp [numsTo]
  | k + 1 => by
    have := numsTo_le t k
    have := put_len (numsTo t k) (t.getD k ⟨#[]⟩) ((k : Int) + 1)
    rw [numsTo]; omega

/-- What a look-up in the map gives. -/
def look (l : List (ByteArray × Int)) (x : ByteArray) : Option Int := (l.find? fun p => decide (p.1 = x)).map Prod.snd

/-- In a table of unlike names the look-up is the first place. -/
theorem posN_nodup {x : ByteArray} : ∀ {t : List ByteArray} {k : Nat}, t.Nodup → t[k]? = some x → posN x t = some k
  | [], _, _, h => by simp at h
  | y :: r, 0, _, h => by simp at h; simp [posN, h]
  | y :: r, k + 1, hn, h => by
    have h' : r[k]? = some x := by simpa using h
    obtain ⟨h1, h2⟩ := List.nodup_cons.1 hn
    have hne : y ≠ x := fun e => h1 (e ▸ List.mem_of_getElem? h')
    rw [posN, if_neg hne, posN_nodup h2 h']
    rfl
theorem idx_mem {t : List ByteArray} {x : ByteArray} {k : Nat} (h : posN x t = some k) : (x, (k : Int) + 1) ∈ idx t := by
  have := (posN_spec h).1
  refine List.mem_of_getElem? (i := k) ?_
  simp [idx, this]
theorem idx_none {t : List ByteArray} {x : ByteArray} (h : posN x t = none) : ∀ p ∈ idx t, p.1 ≠ x := by
  intro p hp e
  have : p.1 ∈ (idx t).map Prod.fst := List.mem_map_of_mem hp
  rw [idx_fst, e] at this
  exact posN_mem.1 h this

/-- A table. -/
def validB (nameB : ByteArray → Bool) (t : List ByteArray) : Bool := decide (t.length ≤ 500) && t.all nameB && decide t.Nodup
/-- The reference's way: each name stands first at its own place. -/
theorem nodup_first (t : List ByteArray) : t.Nodup ↔ ∀ i, i < t.length → posI t (t.getD i ⟨#[]⟩) = i := by
  constructor
  · intro hn i hi
    have he : t[i]? = some (t.getD i ⟨#[]⟩) := by rw [List.getD_eq_getElem?_getD, List.getElem?_eq_getElem hi]; rfl
    unfold posI
    rw [posN_nodup hn he]
  · intro h
    rw [List.nodup_iff_pairwise_ne, List.pairwise_iff_getElem]
    intro i j hi hj hij e
    have e1 : t.getD i ⟨#[]⟩ = t.getD j ⟨#[]⟩ := by rw [List.getD_eq_getElem?_getD, List.getD_eq_getElem?_getD, List.getElem?_eq_getElem hi, List.getElem?_eq_getElem hj, e]
    have h1 := h i hi
    have h2 := h j hj
    rw [e1, h2] at h1
    omega
end Go.Proofs.YtfdmpbihepkjnaaDoor.Pl

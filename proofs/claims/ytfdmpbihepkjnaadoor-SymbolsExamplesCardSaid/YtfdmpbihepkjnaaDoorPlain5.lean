/- Plain laws on texts of words. Conditions: none; no program in sight. -/
import Derived.Test.YtfdmpbihepkjnaaDoorPlain4
namespace Go.Proofs.YtfdmpbihepkjnaaDoor.Pl

/-- A word of a table. -/
def inT (t : List ByteArray) (y : Int) : Bool := decide (1 ≤ y) && decide (y ≤ t.length)
def wordB (t : List ByteArray) (x : List Int) : Bool := decide (x.length ≤ 200) && allR x.length fun k => inT t (x.getD k 0)
/-- The names of the first symbols, one behind the other. -/
def catTo (t : List ByteArray) (x : List Int) : Nat → List UInt8
  | 0 => []
  | k + 1 => catTo t x k ++ (t.getD (x.getD k 0 - 1).toNat ⟨#[]⟩).data.toList
/-- What Text hands back. -/
def txt (vT : List ByteArray → Bool) (t : List ByteArray) (x : List Int) : ByteArray × Int := if vT t && wordB t x then (⟨(catTo t x x.length).toArray⟩, 0) else (⟨#[]⟩, 1)

theorem cat_len {t : List ByteArray} {x : List Int} (ht : ∀ y ∈ t, y.size ≤ 40) : ∀ k, (catTo t x k).length ≤ 40 * k
  | 0 => by simp [catTo]
  | k + 1 => by
    have ih := cat_len ht (x := x) k
    have h1 : (t.getD (x.getD k 0 - 1).toNat ⟨#[]⟩).data.toList.length ≤ 40 := by
      rw [Array.length_toList]
      by_cases h : (x.getD k 0 - 1).toNat < t.length
      · exact ht _ (List.mem_of_getElem? (getD_mem h))
      · rw [List.getD_eq_getElem?_getD, List.getElem?_eq_none (by omega)]; simp
    rw [catTo, List.length_append]; omega
end Go.Proofs.YtfdmpbihepkjnaaDoor.Pl

/- Structs as data: two kinds side by side; a kind by another name. Conditions: none; over any program. -/
import Derived.Test.YtonadloonidmjaaDoorTail
namespace Go.Proofs.YtonadloonidmjaaDoor
open Go.RowKit

/-- Two kinds of data side by side: the cells of the first, then those of the second. -/
def tPair {α β : Type} (A : Ty α) (B : Ty β) : Ty (α × β) where
  size := A.size + B.size
  rep := fun w D cs p => ∃ c1 c2, cs = c1 ++ c2 ∧ A.rep w D c1 p.1 ∧ B.rep w D c2 p.2
  pos := Nat.lt_of_lt_of_le A.pos (Nat.le_add_right _ _)
  len := by rintro _ _ _ _ ⟨c1, c2, rfl, h1, h2⟩; rw [List.length_append, A.len h1, B.len h2]
  one := by
    rintro _ _ _ _ ⟨c1, c2, rfl, h1, h2⟩ u hu
    rcases List.mem_append.1 hu with hu | hu
    · exact A.one h1 u hu
    · exact B.one h2 u hu
  keep := fun ⟨c1, c2, h0, h1, h2⟩ hk => ⟨c1, c2, h0, A.keep h1 hk, B.keep h2 hk⟩
  lt := fun ⟨c1, c2, h0, h1, h2⟩ => ⟨c1, c2, h0, A.lt h1, B.lt h2⟩

/-- The same cells, told by another datum. -/
def tMap {α β : Type} (T : Ty α) (f : β → α) : Ty β where
  size := T.size
  rep := fun w D cs b => T.rep w D cs (f b)
  pos := T.pos
  len := fun h => T.len h
  one := fun h => T.one h
  keep := fun h hk => T.keep h hk
  lt := fun h => T.lt h

section
variable {α β : Type} {A : Ty α} {B : Ty β} {w w' : World} {D D' : Nat → Prop} {cs : List Value}
theorem pair_mk {c1 c2 : List Value} {a : α} {b : β} (h1 : A.rep w D c1 a) (h2 : B.rep w D c2 b) : (tPair A B).rep w D (c1 ++ c2) (a, b) := ⟨c1, c2, rfl, h1, h2⟩
theorem int_rep {a : Int} (h : tInt.rep w D cs a) : cs = [.int .i64 a] ∧ -9223372036854775808 ≤ a ∧ a ≤ 9223372036854775807 := h
theorem bool_rep {a : Bool} (h : tBool.rep w D cs a) : cs = [.bool a] := h
theorem str_rep {a : ByteArray} (h : tStr.rep w D cs a) : cs = [.string a] ∧ a.size ≤ maxLen := h
theorem sl_rep {T : Ty α} {xs : List α} (h : (tSlice T).rep w D cs xs) : ∃ v, cs = [v] ∧ Sl T w D v xs := h

/-- The cells of element k of a slice, one by one: whatever the kind. -/
theorem Sl.elem {T : Ty α} {A' : Option Addr} {n c : Nat} {xs : List α} (h : Sl T w D (.slice A' n c) xs) {k : Nat} (hk : k < xs.length) :
    ∃ b off x cs, A' = some ⟨b, off, none⟩ ∧ Hid (xs[k]? = some x) ∧ D b ∧ T.rep w D cs x ∧ ∀ i u, cs[i]? = some u → w.cell? ⟨b, off + k * T.size + i, none⟩ = some u := by
  obtain ⟨b, off, c, cs, h1, hD, h4, h3⟩ := h.cells (List.getElem?_eq_getElem hk)
  injection h1 with h1
  exact ⟨b, off, _, cs, h1, List.getElem?_eq_getElem hk, hD, h4, h3⟩
end
end Go.Proofs.YtonadloonidmjaaDoor

/- Structs as arguments: from what is read at a struct's type to the data of its fields. Conditions: the readings of the arguments. -/
import Derived.Test.YtonadloonidmjaaDoorOpen
import Derived.Test.YtonadloonidmjaaDoorPair
import Derived.ChangeArms
namespace Go.Proofs.YtonadloonidmjaaDoor
open Go.RowKit Go.WideShapes Go.ChangeShapes Go.Deep

section
variable {H : Type} {enc : TypeId × Value → H} {P : Program} {w : World} {base : Nat} {spare : Nat → Bool} {held : Bool}

/-- From a cell on, the fields fs lie as data of kind T. -/
def OpnFs {α : Type} (enc : TypeId × Value → H) (P : Program) (w : World) (base : Nat) (spare : Nat → Bool) (held : Bool) (T : Ty α) (off : Nat) (fs : List Field) : Prop :=
  ∀ (n : Nat) (cs : List Value), (∀ f ∈ fs, ∃ x, DataW.trod enc P w base spare held n f.type ((cs.drop f.offset).take (P.cellsOf f.type)) = some x) → cs.length = off + T.size →
    ∃ y, T.rep w (fun b => b < w.heap.size) (cs.drop off) y

theorem opnfs_one {α : Type} {T : Ty α} {off : Nat} {f : Field} (ho : f.offset = off) (hc : P.cellsOf f.type = T.size) (h : Opn enc P w base spare held T f.type) : OpnFs enc P w base spare held T off [f] := fun n cs hx hl => by
  obtain ⟨x, hx⟩ := hx f (by simp)
  obtain ⟨y, hy⟩ := h _ _ _ hx
  rw [ho, hc, List.take_of_length_le (by rw [List.length_drop]; omega)] at hy
  exact ⟨y, hy⟩
theorem opnfs_cons {α β : Type} {A : Ty α} {B : Ty β} {off : Nat} {f : Field} {fs : List Field} (ho : f.offset = off) (hc : P.cellsOf f.type = A.size) (h : Opn enc P w base spare held A f.type)
    (hr : OpnFs enc P w base spare held B (off + A.size) fs) : OpnFs enc P w base spare held (tPair A B) off (f :: fs) := fun n cs hx hl => by
  have hl' : cs.length = off + A.size + B.size := by rw [hl]; simp [tPair]; omega
  obtain ⟨x, h1⟩ := hx f (by simp)
  obtain ⟨y, hy⟩ := h _ _ _ h1
  obtain ⟨z, hz⟩ := hr n cs (fun g hg => hx g (by simp [hg])) hl'
  rw [ho, hc] at hy
  refine ⟨(y, z), _, _, ?_, hy, hz⟩
  rw [← List.drop_drop, List.take_append_drop]
theorem opn_struct {α : Type} {T : Ty α} {t : TypeId} {fs : Array Field} (ht : P.underlying t = some (.struct fs)) (hc : P.cellsOf t = T.size) (h : OpnFs enc P w base spare held T 0 fs.toList) : Opn enc P w base spare held T t := fun fuel cs x hx => by
  obtain ⟨xs, n, _, _, hl, hlen, hf⟩ := DataW.trod_struct ht hx
  obtain ⟨y, hy⟩ := h n cs (fun f hm => by
    obtain ⟨i, hi⟩ := List.mem_iff_getElem?.1 hm
    have hi' : fs[i]? = some f := by simpa using hi
    have hlt : i < fs.size := (Array.getElem?_eq_some_iff.1 hi').1
    have := hf i f hi'
    rw [List.getElem?_eq_getElem (by omega)] at this
    exact ⟨_, this⟩) (by omega)
  exact ⟨y, by simpa using hy⟩
theorem opn_map {α β : Type} {T : Ty α} {t : TypeId} (f : β → α) (hs : ∀ a, ∃ b, f b = a) (h : Opn enc P w base spare held T t) : Opn enc P w base spare held (tMap T f) t := fun fuel cs x hx => by
  obtain ⟨y, hy⟩ := h _ _ _ hx
  obtain ⟨b, rfl⟩ := hs y
  exact ⟨b, hy⟩
end
end Go.Proofs.YtonadloonidmjaaDoor

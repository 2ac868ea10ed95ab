/- More words for memory: data that lie where P says, lists kept while another list grows, new memory. Conditions: none; over any program. -/
import Derived.Test.YtonadloonidmjaaDoorApp
import Derived.OwnWalk
namespace Go.Proofs.YtonadloonidmjaaDoor
open Go.RowKit

theorem sz_alloc (w : World) (o : Obj) : (w.alloc o).heap.size = w.heap.size + 1 := by simp
theorem own_sl {g n c : Nat} {k : Nat} (h : (Value.slice (some ⟨g, 0, none⟩) n c).ownBlock = some k) : g = k := by injection h
theorem at_old_eq {w : World} {o : Obj} {g : Nat} (h : g < w.heap.size) : (w.alloc o).heap[g]? = w.heap[g]? := Below.heap_alloc w o g h
theorem bw_al {a b : World} (h : Bw a b) (o : Obj) : Bw a (b.alloc o) := h.alloc h.size o

/-- Data of kind T, whose blocks lie where P says. -/
def tLo {α : Type} (T : Ty α) (P : Nat → Prop) : Ty α where
  size := T.size
  rep := fun w D cs a => T.rep w (fun b => D b ∧ P b) cs a
  pos := T.pos
  len := fun h => T.len h
  one := fun h => T.one h
  keep := fun h hk => T.keep h fun b hb => ⟨⟨(hk b hb.1).1, hb.2⟩, (hk b hb.1).2⟩
  lt := fun h => T.keep (T.lt h) fun _ hb => ⟨⟨⟨hb.1.1, hb.2⟩, hb.1.2⟩, rfl⟩

section
variable {α : Type} {T : Ty α} {P : Nat → Prop} {w w' : World} {D : Nat → Prop} {v : Value} {xs : List α} {e : TypeId} {base : Nat}
theorem Sl.lo (h : Sl T w D v xs) (hP : ∀ b, D b → P b) : Sl (tLo T P) w D v xs := by
  obtain ⟨A, c, h1, h2, h3, h4⟩ := h
  refine ⟨A, c, h1, h2, h3, ?_⟩
  rcases h4 with h | ⟨b, off, hA, hD, hx⟩
  · exact .inl h
  · exact .inr ⟨b, off, hA, hD, fun j x hj => by
      obtain ⟨cs, q1, q2⟩ := hx j x hj
      exact ⟨cs, T.keep q1 fun b hb => ⟨⟨hb, hP b hb⟩, rfl⟩, q2⟩⟩
theorem Sl.unlo (h : Sl (tLo T P) w D v xs) : Sl T w D v xs := by
  obtain ⟨A, c, h1, h2, h3, h4⟩ := h
  refine ⟨A, c, h1, h2, h3, ?_⟩
  rcases h4 with h | ⟨b, off, hA, hD, hx⟩
  · exact .inl h
  · exact .inr ⟨b, off, hA, hD, fun j x hj => by
      obtain ⟨cs, q1, q2⟩ := hx j x hj
      exact ⟨cs, T.keep q1 fun b hb => ⟨hb.1, rfl⟩, q2⟩⟩
/-- Kept over a change of a block where no datum lies. -/
theorem Acc.lo_grown (h : Acc (tLo T P) e w base v xs) {row : Option Nat} (hg : w.grownBy w' row) (hr : v.ownBlock = none ∨ v.ownBlock ≠ row) (hrow : ∀ g, row = some g → ¬ P g) : Acc (tLo T P) e w' base v xs := by
  obtain ⟨css, h1, h2, h3⟩ := h
  exact ⟨css, h1.kept hg hr, h2, fun j x cs hj hc => T.keep (T.lt (h3 j x cs hj hc)) fun b hb => ⟨hb.1, hg.block b hb.2 (fun e => hrow b e.symm hb.1.2)⟩⟩
/-- What a slice that shares no block of P leads to. -/
theorem lo_free (hg : ∀ g, v.ownBlock = some g → ¬ P g) : ∀ x cs, (tLo T P).rep w D cs x → (tLo T P).rep w (fun b => 0 ≤ b ∧ some b ≠ v.ownBlock) cs x :=
  fun _ _ h => T.keep h fun b hb => ⟨⟨⟨Nat.zero_le _, fun e => hg b e.symm hb.2⟩, hb.2⟩, rfl⟩
theorem Sl.hiA {n : Nat} (h : Sl T w (fun b => n ≤ b ∧ b < w.heap.size) v xs) (hb : Bw w w') : Sl T w' (Hi n) v xs :=
  (h.below hb (fun _ hb => hb.2)).weaken fun _ hb => hb.1
theorem Sl.apart {X : World} {g : Nat} {o : Obj} (h : Sl T w (Hi X.heap.size) v xs) (hg : (w.alloc o).grownBy w' (some g)) (hgx : g < X.heap.size) : Rd T w' v xs :=
  Sl.rd (D := Hi X.heap.size) (h.lt.keep fun b hb => ⟨hb.1, (hg.block b (by rw [sz_alloc]; have := hb.2; omega) (fun e => by injection e with e; have := hb.1; omega)).trans (at_old_eq hb.2)⟩)
end

/-- Data that lead nowhere: their cells alone tell them. -/
def Flat {α : Type} (T : Ty α) : Prop := ∀ (w w' : World) (D D' : Nat → Prop) cs a, T.rep w D cs a → T.rep w' D' cs a
theorem flat_int : Flat tInt := fun _ _ _ _ _ _ h => h
theorem flat_str : Flat tStr := fun _ _ _ _ _ _ h => h
theorem flat_bool : Flat tBool := fun _ _ _ _ _ _ h => h

/-- A list of flat data stands where another list grows. -/
theorem Acc.grownF {α : Type} {T : Ty α} (hF : Flat T) {e : TypeId} {w w' : World} {base : Nat} {v : Value} {xs : List α} (h : Acc T e w base v xs) {row : Option Nat} (hg : w.grownBy w' row) (hr : v.ownBlock = none ∨ v.ownBlock ≠ row) : Acc T e w' base v xs := by
  obtain ⟨css, h1, h2, h3⟩ := h
  exact ⟨css, h1.kept hg hr, h2, fun j x cs hj hc => hF _ _ _ _ _ _ (h3 j x cs hj hc)⟩
/-- Two lists share no block of their own. -/
def Dj (u v : Value) : Prop := ∀ g, u.ownBlock = some g → v.ownBlock = some g → False
theorem Dj.symm {u v : Value} (h : Dj u v) : Dj v u := fun g h1 h2 => h g h2 h1
theorem Dj.ne {u v : Value} (h : Dj u v) : u.ownBlock = none ∨ u.ownBlock ≠ v.ownBlock := by
  cases hu : u.ownBlock with
  | none => exact .inl rfl
  | some g => exact .inr fun e => h g hu e.symm
theorem Dj.step {u v v' : Value} {w : World} (h : Dj u v) (hat : v'.ownBlock = v.ownBlock ∨ v'.ownBlock = some w.heap.size) (hu : ∀ g, u.ownBlock = some g → g < w.heap.size) : Dj u v' := fun g h1 h2 => by
  rcases hat with e | e
  · exact h g h1 (e ▸ h2)
  · have := hu g h1
    rw [e] at h2
    injection h2 with h2
    omega

/-- What a literal of ints reads as, in the world that it makes. -/
theorem lit {w : World} {xs : List Int} {e : TypeId} (hl : xs.length ≤ maxLen) (hr : ∀ y ∈ xs, -9223372036854775808 ≤ y ∧ y ≤ 9223372036854775807) :
    Rd tInt (w.alloc (.cells (xs.map (Value.int .i64)).toArray e)) (.slice (some ⟨w.heap.size, 0, none⟩) xs.length xs.length) xs := sl_lit (at_new rfl) (by simp) hl hr
/-- What a literal of strings reads as. -/
theorem sl_strs {w : World} {D : Nat → Prop} {g : Nat} {xs : List ByteArray} {e : TypeId} {fz : Nat × Nat} (hg : w.heap[g]? = some (.cells (xs.map Value.string).toArray e fz)) (hD : D g) (hl : xs.length ≤ maxLen)
    (hr : ∀ y ∈ xs, y.size ≤ maxLen) : Sl tStr w D (.slice (some ⟨g, 0, none⟩) xs.length xs.length) xs :=
  ⟨_, _, rfl, Nat.le_refl _, hl, .inr ⟨g, 0, rfl, hD, fun j x hj => ⟨[.string x], ⟨rfl, hr x (List.mem_of_getElem? hj)⟩, fun i u hi => by
    cases i with
    | zero =>
      simp at hi; subst hi
      have := cell_of_row w g j (xs.map Value.string).toArray e fz hg
      rw [show (0 + j * tStr.size + 0) = j by simp [tStr]]
      rw [this]
      simp [hj]
    | succ i => simp at hi⟩⟩⟩
end Go.Proofs.YtonadloonidmjaaDoor

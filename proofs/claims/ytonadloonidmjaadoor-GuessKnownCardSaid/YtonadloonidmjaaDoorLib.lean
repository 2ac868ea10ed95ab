/- Words for memory: what it means that a value reads as a list of data, kept over every step that leaves its blocks alone; a slice of the call's own that grows. Conditions: none; over any program. -/
import Derived.WalkKit
import Derived.Deep.Draws
import Derived.Maps.AppendAt
import Derived.Laws.MakeOwn
namespace Go.Proofs.YtonadloonidmjaaDoor
open Go.RowKit

/-- A kind of data: how many cells it takes, and when cells read as it (the blocks that are looked at lie in D). -/
structure Ty (α : Type) where
  size : Nat
  rep : World → (Nat → Prop) → List Value → α → Prop
  pos : 0 < size
  len : ∀ {w D cs a}, rep w D cs a → cs.length = size
  one : ∀ {w D cs a}, rep w D cs a → ∀ u ∈ cs, u.oneCell' = true
  keep : ∀ {w w' : World} {D D' : Nat → Prop} {cs a}, rep w D cs a → (∀ b, D b → D' b ∧ w'.heap[b]? = w.heap[b]?) → rep w' D' cs a
  lt : ∀ {w : World} {D : Nat → Prop} {cs a}, rep w D cs a → rep w (fun b => D b ∧ b < w.heap.size) cs a

/-- int within its bounds. -/
def inI64 (a : Int) : Prop := -9223372036854775808 ≤ a ∧ a ≤ 9223372036854775807

def tInt : Ty Int where
  size := 1
  rep := fun _ _ cs a => cs = [.int .i64 a] ∧ inI64 a
  pos := by decide
  len := by rintro _ _ _ _ ⟨rfl, _⟩; rfl
  one := by rintro _ _ _ _ ⟨rfl, _⟩ u hu; simp at hu; subst hu; rfl
  keep := fun h _ => h
  lt := fun h => h

def tBool : Ty Bool where
  size := 1
  rep := fun _ _ cs a => cs = [.bool a]
  pos := by decide
  len := by rintro _ _ _ _ rfl; rfl
  one := by rintro _ _ _ _ rfl u hu; simp at hu; subst hu; rfl
  keep := fun h _ => h
  lt := fun h => h

def tStr : Ty ByteArray where
  size := 1
  rep := fun _ _ cs a => cs = [.string a] ∧ a.size ≤ maxLen
  pos := by decide
  len := by rintro _ _ _ _ ⟨rfl, _⟩; rfl
  one := by rintro _ _ _ _ ⟨rfl, _⟩ u hu; simp at hu; subst hu; rfl
  keep := fun h _ => h
  lt := fun h => h

section
variable {α : Type} (T : Ty α)

/-- At A lie the elements xs, one behind the other, in blocks of D. -/
def Row (w : World) (D : Nat → Prop) (A : Option Addr) (xs : List α) : Prop :=
  xs = [] ∨ ∃ b off, A = some ⟨b, off, none⟩ ∧ D b ∧ ∀ j x, xs[j]? = some x → ∃ cs, T.rep w D cs x ∧ ∀ i v, cs[i]? = some v → w.cell? ⟨b, off + j * T.size + i, none⟩ = some v

/-- The slice value v reads as xs. -/
def Sl (w : World) (D : Nat → Prop) (v : Value) (xs : List α) : Prop :=
  ∃ A c, v = .slice A xs.length c ∧ xs.length ≤ c ∧ c ≤ maxLen ∧ Row T w D A xs

variable {T} {w w' : World} {D D' : Nat → Prop} {v : Value} {xs : List α} {A : Option Addr}

theorem Row.keep (h : Row T w D A xs) (hk : ∀ b, D b → D' b ∧ w'.heap[b]? = w.heap[b]?) : Row T w' D' A xs := by
  rcases h with h | ⟨b, off, hA, hD, hx⟩
  · exact .inl h
  · refine .inr ⟨b, off, hA, (hk b hD).1, fun j x hj => ?_⟩
    obtain ⟨cs, h1, h2⟩ := hx j x hj
    exact ⟨cs, T.keep h1 hk, fun i v hi => (World.cell?_of_block (w := w) (hk b hD).2).trans (h2 i v hi)⟩

theorem Sl.keep (h : Sl T w D v xs) (hk : ∀ b, D b → D' b ∧ w'.heap[b]? = w.heap[b]?) : Sl T w' D' v xs :=
  let ⟨A, c, h1, h2, h3, h4⟩ := h
  ⟨A, c, h1, h2, h3, h4.keep hk⟩

theorem Row.lt (h : Row T w D A xs) : Row T w (fun b => D b ∧ b < w.heap.size) A xs := by
  by_cases h0 : xs = []
  · exact .inl h0
  rcases h with h | ⟨b, off, hA, hD, hx⟩
  · exact .inl h
  · refine .inr ⟨b, off, hA, ⟨hD, ?_⟩, fun j x hj => ?_⟩
    · cases xs with
      | nil => exact absurd rfl h0
      | cons x0 r =>
        obtain ⟨cs, h1, h2⟩ := hx 0 x0 rfl
        have hl : 0 < cs.length := by rw [T.len h1]; exact T.pos
        exact World.block_lt_of_cell? w _ (h2 0 _ (List.getElem?_eq_getElem hl))
    · obtain ⟨cs, h1, h2⟩ := hx j x hj
      exact ⟨cs, T.lt h1, h2⟩

theorem Sl.lt (h : Sl T w D v xs) : Sl T w (fun b => D b ∧ b < w.heap.size) v xs :=
  let ⟨A, c, h1, h2, h3, h4⟩ := h
  ⟨A, c, h1, h2, h3, h4.lt⟩

theorem Sl.nil : Sl T w D (.slice none 0 0) [] := ⟨none, 0, rfl, Nat.le_refl _, Nat.zero_le _, .inl rfl⟩
theorem Sl.empty (A : Option Addr) (c : Nat) (hc : c ≤ maxLen) : Sl T w D (.slice A 0 c) [] := ⟨A, c, rfl, Nat.zero_le _, hc, .inl rfl⟩

theorem Sl.form (h : Sl T w D v xs) : ∃ A c, v = .slice A xs.length c ∧ xs.length ≤ c ∧ c ≤ 9223372036854775807 := by
  obtain ⟨A, c, h1, h2, h3, _⟩ := h
  exact ⟨A, c, h1, h2, by simpa [maxLen] using h3⟩

theorem Sl.form' (h : Sl T w D v xs) : ∃ A n c, v = .slice A n c ∧ n ≤ c ∧ c ≤ 9223372036854775807 ∧ Hid (n = xs.length) := by
  obtain ⟨A, c, h1, h2, h3⟩ := h.form
  exact ⟨A, _, c, h1, h2, h3, rfl⟩

theorem Sl.len_le (h : Sl T w D v xs) : xs.length ≤ 9223372036854775807 := by
  obtain ⟨A, c, h1, h2, h3⟩ := h.form
  omega

/-- The cells of element k. -/
theorem Sl.cells (h : Sl T w D v xs) {k : Nat} {x : α} (hk : xs[k]? = some x) :
    ∃ b off c cs, v = .slice (some ⟨b, off, none⟩) xs.length c ∧ D b ∧ T.rep w D cs x ∧ ∀ i u, cs[i]? = some u → w.cell? ⟨b, off + k * T.size + i, none⟩ = some u := by
  obtain ⟨A, c, rfl, h2, h3, h4⟩ := h
  rcases h4 with rfl | ⟨b, off, rfl, hD, hx⟩
  · simp at hk
  · obtain ⟨cs, h5, h6⟩ := hx k x hk
    exact ⟨b, off, c, cs, rfl, hD, h5, h6⟩

theorem Sl.weaken (h : Sl T w D v xs) (hk : ∀ b, D b → D' b) : Sl T w D' v xs := h.keep fun b hb => ⟨hk b hb, rfl⟩

/-- A cut 'x[l:h]'. -/
theorem Row.cut (h : Row T w D A xs) (l n : Nat) (c : Nat) (hc : xs.length ≤ c) (hl : n ≤ xs.length) :
    Row T w D (if c = l then A else A.map (·.add (l * T.size))) ((xs.take n).drop l) := by
  rcases h with rfl | ⟨b, off, rfl, hD, hx⟩
  · left; simp
  · by_cases hln : n ≤ l
    · left
      apply List.eq_nil_of_length_eq_zero
      rw [List.length_drop, List.length_take]; omega
    · right
      rw [if_neg (by omega)]
      refine ⟨b, off + l * T.size, ?_, hD, fun j x hj => ?_⟩
      · show some (Addr.add ⟨b, off, none⟩ (l * T.size)) = _
        unfold Addr.add
        split
        · rename_i h0; rw [h0]; rfl
        · rfl
      · rw [List.getElem?_drop, List.getElem?_take] at hj
        split at hj
        · obtain ⟨cs, h1, h2⟩ := hx (l + j) x hj
          refine ⟨cs, h1, fun i v hi => ?_⟩
          have := h2 i v hi
          rwa [Nat.add_mul, ← Nat.add_assoc] at this
        · cases hj

theorem Sl.cut {c : Nat} (h : Sl T w D (.slice A xs.length c) xs) {l n m : Nat} (hln : l ≤ n) (hl : n ≤ xs.length) (hm : m = n - l) :
    Sl T w D (.slice (if c = l then A else A.map (·.add (l * T.size))) m (c - l)) ((xs.take n).drop l) := by
  obtain ⟨A', c', h1, h2, h3, h4⟩ := h
  injection h1 with e1 e2 e3
  subst e1; subst e3; subst hm
  refine ⟨if c = l then A else A.map (·.add (l * T.size)), c - l, ?_, ?_, ?_, h4.cut l n c h2 hl⟩
  · have : ((xs.take n).drop l).length = n - l := by rw [List.length_drop, List.length_take]; omega
    rw [this]
  · rw [List.length_drop, List.length_take]; omega
  · omega

/-- A slice of data as data of one cell. -/
def tSlice {α : Type} (T : Ty α) : Ty (List α) where
  size := 1
  rep := fun w D cs xs => ∃ v, cs = [v] ∧ Sl T w D v xs
  pos := by decide
  len := by rintro _ _ _ _ ⟨v, rfl, _⟩; rfl
  one := by
    rintro _ _ _ _ ⟨v, rfl, A, c, rfl, _⟩ u hu
    simp at hu; subst hu; rfl
  keep := fun ⟨v, h1, h2⟩ hk => ⟨v, h1, h2.keep hk⟩
  lt := fun ⟨v, h1, h2⟩ => ⟨v, h1, h2.lt⟩

end

/-- The slice value v reads as xs (in the world as it is). -/
abbrev Rd {α : Type} (T : Ty α) (w : World) (v : Value) (xs : List α) : Prop := Sl T w (fun b => b < w.heap.size) v xs

/-- Element k of a slice of ints: its cell. -/
theorem Sl.int {w : World} {D : Nat → Prop} {A : Option Addr} {n c : Nat} {xs : List Int} (h : Sl tInt w D (.slice A n c) xs) {k : Nat} (hk : k < xs.length) :
    ∃ b off x, A = some ⟨b, off, none⟩ ∧ Hid (xs[k]? = some x) ∧ -9223372036854775808 ≤ x ∧ x ≤ 9223372036854775807 ∧ w.cell? ⟨b, off + k, none⟩ = some (.int .i64 x) := by
  obtain ⟨b, off, c, cs, h1, _, ⟨rfl, h4⟩, h3⟩ := h.cells (List.getElem?_eq_getElem hk)
  injection h1 with h1
  exact ⟨b, off, _, h1, List.getElem?_eq_getElem hk, h4.1, h4.2, by simpa [tInt] using h3 0 _ rfl⟩

/-- Element k of a slice of strings: its cell. -/
theorem Sl.str {w : World} {D : Nat → Prop} {A : Option Addr} {n c : Nat} {xs : List ByteArray} (h : Sl tStr w D (.slice A n c) xs) {k : Nat} (hk : k < xs.length) :
    ∃ b off x, A = some ⟨b, off, none⟩ ∧ Hid (xs[k]? = some x) ∧ x.size ≤ 9223372036854775807 ∧ w.cell? ⟨b, off + k, none⟩ = some (.string x) := by
  obtain ⟨b, off, c, cs, h1, _, ⟨rfl, h4⟩, h3⟩ := h.cells (List.getElem?_eq_getElem hk)
  injection h1 with h1
  exact ⟨b, off, _, h1, List.getElem?_eq_getElem hk, by simpa [maxLen] using h4, by simpa [tStr] using h3 0 _ rfl⟩

/-- Element k of a slice of slices: its cell, and what it reads as. -/
theorem Sl.sl {α : Type} {T : Ty α} {w : World} {D : Nat → Prop} {A : Option Addr} {n c : Nat} {xs : List (List α)} (h : Sl (tSlice T) w D (.slice A n c) xs) {k : Nat} (hk : k < xs.length) :
    ∃ b off u x, A = some ⟨b, off, none⟩ ∧ Hid (xs[k]? = some x) ∧ Sl T w D u x ∧ w.cell? ⟨b, off + k, none⟩ = some u := by
  obtain ⟨b, off, c, cs, h1, _, ⟨u, rfl, h4⟩, h3⟩ := h.cells (List.getElem?_eq_getElem hk)
  injection h1 with h1
  exact ⟨b, off, u, _, h1, List.getElem?_eq_getElem hk, h4, by simpa [tSlice] using h3 0 _ rfl⟩

/-- Below block number n. -/
abbrev Lo (n : Nat) : Nat → Prop := fun b => b < n
/-- From block number n on. -/
abbrev Hi (n : Nat) : Nat → Prop := fun b => n ≤ b

section
variable {α : Type} {T : Ty α} {w w' : World} {D : Nat → Prop} {v : Value} {xs : List α} {B : Nat}

theorem Sl.rd (h : Sl T w D v xs) : Rd T w v xs := h.lt.weaken fun _ hb => hb.2
theorem Sl.after (h : Rd T w v xs) (hb : Below w.heap.size w w') : Rd T w' v xs :=
  h.keep fun b hd => ⟨Nat.lt_of_lt_of_le hd hb.size, hb.block b hd⟩
theorem Sl.alloc (h : Rd T w v xs) (o : Obj) : Rd T (w.alloc o) v xs := h.after ((Below.refl _ _).alloc (Nat.le_refl _) o)
theorem Sl.below (h : Sl T w D v xs) (hb : Below B w w') (hD : ∀ b, D b → b < B) : Sl T w' D v xs := h.keep fun b hd => ⟨hd, hb.block b (hD b hd)⟩
theorem Sl.drewN (h : Sl T w D v xs) (n : Nat) : Sl T (w.drewN n) D v xs := h.keep fun _ hd => ⟨hd, rfl⟩
theorem Sl.drew (h : Sl T w D v xs) : Sl T w.drew D v xs := h.keep fun _ hd => ⟨hd, rfl⟩
end

/-- What was there is as it was. -/
abbrev Bw (w w' : World) : Prop := Below w.heap.size w w'
theorem Bw.then {a b c : World} (h : Bw a b) (k : Bw b c) : Bw a c := Below.trans h (Below.mono k h.size)
theorem Bw.drewN {a b : World} (h : Bw a b) (n : Nat) : Bw a (b.drewN n) := ⟨h.os, h.tape, h.output, h.size, h.block⟩
theorem Bw.drew {a b : World} (h : Bw a b) : Bw a b.drew := ⟨h.os, h.tape, h.output, h.size, h.block⟩

/-- Nothing but draws lies between the two worlds. -/
def Dr (w w' : World) : Prop := ∃ n, w' = w.drewN n
theorem Dr.refl (w : World) : Dr w w := ⟨0, rfl⟩
theorem Dr.trans {a b c : World} (h : Dr a b) (k : Dr b c) : Dr a c := by
  obtain ⟨n, rfl⟩ := h
  obtain ⟨m, rfl⟩ := k
  exact ⟨n + m, World.drewN_drewN _ _ _⟩
theorem Dr.drewN {a b : World} (h : Dr a b) (n : Nat) : Dr a (b.drewN n) := h.trans ⟨n, rfl⟩
theorem Dr.drew {a b : World} (h : Dr a b) : Dr a b.drew := h.trans ⟨1, rfl⟩
theorem Dr.below {a b : World} (h : Dr a b) (B : Nat) : Below B a b := by
  obtain ⟨n, rfl⟩ := h
  exact ⟨rfl, rfl, rfl, Nat.le_refl _, fun _ _ => rfl⟩
theorem Dr.bw {a b : World} (h : Dr a b) : Bw a b := h.below _
theorem Dr.size {a b : World} (h : Dr a b) : b.heap.size = a.heap.size := by
  obtain ⟨n, rfl⟩ := h; rfl
theorem Dr.heap {a b : World} (h : Dr a b) : b.heap = a.heap := by
  obtain ⟨n, rfl⟩ := h; rfl
theorem Sl.dr {α : Type} {T : Ty α} {w w' : World} {D : Nat → Prop} {v : Value} {xs : List α} (h : Sl T w D v xs) (hd : Dr w w') : Sl T w' D v xs := by
  obtain ⟨n, rfl⟩ := hd; exact h.drewN n
theorem Sl.drd {α : Type} {T : Ty α} {w w' : World} {v : Value} {xs : List α} (h : Rd T w v xs) (hd : Dr w w') : Rd T w' v xs := h.after hd.bw
theorem Sl.dn {α : Type} {T : Ty α} {w : World} {v : Value} {xs : List α} (h : Rd T w v xs) (n : Nat) : Rd T (w.drewN n) v xs := h.drewN n
theorem Dr.n (w : World) (n : Nat) : Dr w (w.drewN n) := ⟨n, rfl⟩
theorem Dr.quiet {P : Program} {f : FuncId} {args : Array Value} {w : World} {n : Nat} {v : Value}
    (h : Calls P f args (w.drewN n) fun e w' => e = .returned v ∧ Dr (w.drewN n) w') : Calls P f args (w.drewN n) fun e w'' => e = .returned v ∧ ∃ m, w'' = w.drewN m :=
  h.mono fun _ _ ⟨he, hm⟩ => ⟨he, Dr.trans ⟨n, rfl⟩ hm⟩
theorem Dr.quiet' {P : Program} {f : FuncId} {args : Array Value} {w : World} {n : Nat} {v v' : Value} (hv : v = v')
    (h : Calls P f args (w.drewN n) fun e w' => e = .returned v ∧ Dr (w.drewN n) w') : Calls P f args (w.drewN n) fun e w'' => e = .returned v' ∧ ∃ m, w'' = w.drewN m := by
  subst hv; exact Dr.quiet h
/-- A contract with its value in another spelling. -/
theorem val_of {P : Program} {f : FuncId} {args : Array Value} {w : World} {v v' : Value} {R : World → Prop} (hv : v = v')
    (h : Calls P f args w fun e w' => e = .returned v ∧ R w') : Calls P f args w fun e w' => e = .returned v' ∧ R w' := by
  subst hv; exact h
theorem Sl.pre {α : Type} {T : Ty α} {w : World} {D : Nat → Prop} {A : Option Addr} {n c : Nat} {xs : List α} (h : Sl T w D (.slice A n c) xs) {k : Nat} (hk : k ≤ xs.length) :
    Sl T w D (.slice A k c) (xs.take k) := by
  obtain ⟨A', c', h1, h2, h3, h4⟩ := h
  injection h1 with e1 e2 e3
  subst e1; subst e3; subst e2
  have := h4.cut 0 k c h2 hk
  have hl : (xs.take k).length = k := by rw [List.length_take]; omega
  refine ⟨A, c, by rw [hl], by omega, h3, ?_⟩
  by_cases hc : c = 0
  · rw [if_pos hc] at this; simpa using this
  · rw [if_neg hc] at this
    cases A with
    | none => simpa using this
    | some a => simpa [Addr.add] using this
theorem at_old {w : World} {o x : Obj} {g : Nat} (h : w.heap[g]? = some x) : (w.alloc o).heap[g]? = some x :=
  (Below.heap_alloc w o g (Array.getElem?_eq_some_iff.1 h).1).trans h
theorem at_new {w : World} {o : Obj} {g : Nat} (h : g = w.heap.size) : (w.alloc o).heap[g]? = some o := by
  subst h; exact heap_alloc_new w o
theorem frozen_of_cells {w : World} {g i : Nat} {cs : Array Value} {t : TypeId} (h : w.heap[g]? = some (.cells cs t (0, 0))) : w.frozen? ⟨g, i, none⟩ = false := by
  simp [World.frozen?, h]

theorem eql_slice_nil {P : Program} {t e : TypeId} (ht : P.underlying t = some (.slice e)) (a : Option Addr) (l c : Nat) (w : World) :
    (binOp .eql t (.slice a l c) (.slice none 0 0)).run P w = .ok (.bool a.isNone) w := by
  have h : ∀ d : Nat, (Op.equalIn (d + 1) t (.slice a l c) (.slice none 0 0)).run P w = .ok a.isNone w := fun d => by
    cases a <;> simp [Op.equalIn, run_underlying ht]
  simp only [binOp]
  simp [Op.equal, Op.maxDepth, h 9999]

/-- 'x[l:h]' run: the bounds as whole numbers. -/
theorem run_cut_lh {P : Program} {t e : TypeId} {i : TypeInfo} (ht : P.underlying t = some (.slice e)) (hi : P.info? e = some i) (b off len cap : Nat) {l h : Int} {l' h' : Nat} (el : l = l') (eh : h = h') (h1 : l' ≤ h') (h2 : h' ≤ cap) (hne : l' < cap) (w : World) :
    (Instr.slice t (.slice (some ⟨b, off, none⟩) len cap) (some (.int .i64 l)) (some (.int .i64 h)) none).run P w = .ok (.slice (some ⟨b, off + l' * i.size, none⟩) (h' - l') (cap - l')) w := by
  subst el; subst eh
  have hb1 : (Instr.sliceBound (.int .i64 (h' : Int)) cap .sliceAcap).run P w = .ok h' w := by have := run_sliceBound (P := P) w .i64 (h' : Int) cap .sliceAcap (by omega) (by omega); simpa using this
  have hb2 : (Instr.sliceBound (.int .i64 (l' : Int)) h' .sliceB).run P w = .ok l' w := by have := run_sliceBound (P := P) w .i64 (l' : Int) h' .sliceB (by omega) (by omega); simpa using this
  have ea : (⟨b, off, none⟩ : Addr).add (l' * i.size) = ⟨b, off + l' * i.size, none⟩ := by
    unfold Addr.add; split
    · rename_i h0; rw [h0]; rfl
    · rfl
  simp [Instr.slice, run_underlying ht, Instr.sliceBounds, hb1, hb2, sizeOf, typeInfo, hi, Result.andThen, ea]
  omega

theorem ret_b {a b : Bool} (h : a = b) : Ending.returned (.bool a) = .returned (.bool b) := by rw [h]
theorem ret_i {k : IntKind} {a b : Int} (h : a = b) : Ending.returned (.int k a) = .returned (.int k b) := by rw [h]

/-- What holds of all numbers below k. -/
def Pre (k : Nat) (P : Nat → Prop) : Prop := ∀ j, j < k → P j
theorem Pre.zero {P : Nat → Prop} : Pre 0 P := fun j hj => absurd hj (by omega)
theorem Pre.snoc {k : Nat} {P : Nat → Prop} (h : Pre k P) (hk : P k) : Pre (k + 1) P := fun j hj => by
  by_cases e : j = k
  · subst e; exact hk
  · exact h j (by omega)
end Go.Proofs.YtonadloonidmjaaDoor

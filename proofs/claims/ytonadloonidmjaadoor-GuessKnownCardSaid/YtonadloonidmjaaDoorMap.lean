/- A map that the call has made, entry by entry: what a look-up gives, what a store leaves. Conditions: the key's type has its law ('Keyed'), no entry is ever taken out. -/
import Derived.Test.YtonadloonidmjaaDoorLib
import Derived.Maps.OwnOps
import Derived.Maps.OwnSet
import Derived.DeepKeys4
namespace Go.Proofs.YtonadloonidmjaaDoor
open Go.RowKit Go.ChangeMaps Go.Maps

/-- The entries of a list of keys and values, in the order in which they came. -/
def ents (l : List (Value × Value)) : Array MapEntry := (l.mapIdx fun i p => ({ key := p.1, val := p.2, born := i } : MapEntry)).toArray

theorem ents_at (l : List (Value × Value)) (i : Nat) : (ents l)[i]? = (l[i]?).map fun p => { key := p.1, val := p.2, born := i } := by
  unfold ents; simp
theorem ents_size (l : List (Value × Value)) : (ents l).size = l.length := by unfold ents; simp
theorem ents_mem {l : List (Value × Value)} {e : MapEntry} (h : e ∈ (ents l).toList) : ∃ p ∈ l, e.key = p.1 ∧ e.val = p.2 := by
  obtain ⟨i, hi⟩ := List.mem_iff_getElem?.1 h
  have h2 : (ents l)[i]? = some e := by simpa using hi
  rw [ents_at] at h2
  cases hp : l[i]? with
  | none => rw [hp] at h2; cases h2
  | some p => rw [hp] at h2; injection h2 with h2; exact ⟨p, List.mem_of_getElem? hp, by rw [← h2], by rw [← h2]⟩
theorem ents_push (l : List (Value × Value)) (x v : Value) : (ents l).push { key := x, val := v, born := l.length } = ents (l ++ [(x, v)]) := by
  apply Array.ext_getElem?
  intro i
  rw [ents_at, Array.getElem?_push, ents_size, ents_at]
  by_cases h : i = l.length
  · subst h; simp
  · rw [if_neg h]
    by_cases h2 : i < l.length
    · rw [List.getElem?_append_left h2]
    · rw [List.getElem?_eq_none (by omega), List.getElem?_eq_none (by simp; omega)]
theorem ents_set (l : List (Value × Value)) (j : Nat) (x v u : Value) (h : l[j]? = some (x, u)) : (ents l).modify j (fun e => { e with key := x, val := v }) = ents (l.set j (x, v)) := by
  apply Array.ext_getElem?
  intro i
  rw [ents_at, Array.getElem?_modify, ents_at, List.getElem?_set]
  have hj : j < l.length := (List.getElem?_eq_some_iff.1 h).1
  by_cases e : j = i
  · subst e; rw [if_pos rfl, if_pos rfl, if_pos hj, h]; rfl
  · rw [if_neg e, if_neg e]

/-- Block b is a map with just these entries; their keys are keys of the type, no two alike. -/
structure Mp (P : Program) (k : TypeId) (w : World) (b : Nat) (l : List (Value × Value)) : Prop where
  heap : w.heap[b]? = some (.map (ents l) l.length)
  keys : ∀ p ∈ l, ∃ x, keyOf P k p.1 = some x
  apart : ∀ (i j : Nat) (p q : Value × Value), l[i]? = some p → l[j]? = some q → p.1 = q.1 → i = j

section
variable {P : Program} {k t e : TypeId} {w w' : World} {b : Nat} {l : List (Value × Value)}

theorem Mp.lt (h : Mp P k w b l) : b < w.heap.size := (Array.getElem?_eq_some_iff.1 h.heap).1
theorem Mp.keep (h : Mp P k w b l) (hb : w'.heap[b]? = w.heap[b]?) : Mp P k w' b l := ⟨hb.trans h.heap, h.keys, h.apart⟩
theorem Mp.after (h : Mp P k w b l) (hb : Bw w w') : Mp P k w' b l := h.keep (hb.block b h.lt)
theorem Mp.dn (h : Mp P k w b l) (n : Nat) : Mp P k (w.drewN n) b l := h.keep rfl
theorem Mp.grown (h : Mp P k w b l) {row : Option Nat} (hg : w.grownBy w' row) (hr : some b ≠ row) : Mp P k w' b l := h.keep (hg.block b h.lt hr)
theorem Mp.alloc (h : Mp P k w b l) (o : Obj) : Mp P k (w.alloc o) b l := h.keep (Below.heap_alloc w o b h.lt)
theorem Mp.made (P : Program) (k : TypeId) (w : World) : Mp P k (w.alloc (.map #[] 0)) w.heap.size [] :=
  ⟨heap_alloc_new w _, fun _ h => by simp at h, fun _ _ _ _ h => by simp at h⟩

theorem Mp.entKeys (h : Mp P k w b l) : ∀ e ∈ (ents l).toList, ∃ x, keyOf P k e.key = some x := fun e he => by
  obtain ⟨p, hp, e1, _⟩ := ents_mem he
  rw [e1]; exact h.keys p hp

/-- Where a key stands. -/
theorem Mp.find (K : Keyed P k) (h : Mp P k w b l) {x : Value} {lx : Lit} (hx : keyOf P k x = some lx) (W : World) :
    ((Instr.findKey k x (ents l).toList).run P W = .ok none W ∧ ∀ p ∈ l, p.1 ≠ x) ∨ ∃ j v, (Instr.findKey k x (ents l).toList).run P W = .ok (some (j, v)) W ∧ l[j]? = some (x, v) := by
  rcases K.find W hx (ents l).toList h.entKeys with ⟨h1, h2⟩ | ⟨j, e0, h1, h2, h3⟩
  · refine .inl ⟨h1, fun p hp => ?_⟩
    obtain ⟨i, hi⟩ := List.mem_iff_getElem?.1 hp
    have : (ents l)[i]? = some { key := p.1, val := p.2, born := i } := by rw [ents_at, hi]; rfl
    exact h2 _ (List.mem_of_getElem? (i := i) (by simpa using this))
  · have h4 : (ents l)[j]? = some e0 := by simpa using h2
    rw [ents_at] at h4
    cases hp : l[j]? with
    | none => rw [hp] at h4; cases h4
    | some p =>
      rw [hp] at h4; injection h4 with h4
      refine .inr ⟨j, p.2, ?_, ?_⟩
      · rw [h1, ← h4]
      · rw [hp, ← h3, ← h4]

theorem Mp.look_none (K : Keyed P k) (ht : P.underlying t = some (.map k e)) (h : Mp P k w b l) {x : Value} {lx : Lit} (hx : keyOf P k x = some lx) {z : Value} (hz : (zeroValue e).run P w = .ok z w)
    (hn : ∀ p ∈ l, p.1 ≠ x) (c : Bool) : (Instr.lookup t (.map (some b)) x c).run P w = .ok (if c then .tuple #[z, .bool false] else z) w := by
  rcases h.find K hx w with ⟨h1, _⟩ | ⟨j, v, _, h2⟩
  · simp [Instr.lookup, run_underlying ht, MapKept.run_getObj_map h.heap, K.check w _ hx, h1, hz, Result.andThen]
  · exact absurd rfl (hn _ (List.mem_of_getElem? h2))

theorem Mp.look_some (K : Keyed P k) (ht : P.underlying t = some (.map k e)) (h : Mp P k w b l) {x v : Value} {lx : Lit} (hx : keyOf P k x = some lx)
    (hn : (x, v) ∈ l) (c : Bool) : (Instr.lookup t (.map (some b)) x c).run P w = .ok (if c then .tuple #[v, .bool true] else v) w := by
  rcases h.find K hx w with ⟨_, h2⟩ | ⟨j, u, h1, h2⟩
  · exact absurd rfl (h2 _ hn)
  · obtain ⟨i, hi⟩ := List.mem_iff_getElem?.1 hn
    have := h.apart i j _ _ hi h2 rfl
    subst this
    rw [hi] at h2; injection h2 with h2; injection h2 with _ h2; subst h2
    simp [Instr.lookup, run_underlying ht, MapKept.run_getObj_map h.heap, K.check w _ hx, h1, Result.andThen]

theorem look_nil (K : Keyed P k) (ht : P.underlying t = some (.map k e)) {x : Value} {lx : Lit} (hx : keyOf P k x = some lx) {z : Value} (hz : (zeroValue e).run P w = .ok z w) (c : Bool) :
    (Instr.lookup t (.map none) x c).run P w = .ok (if c then .tuple #[z, .bool false] else z) w := Maps.look_nil c K ht hz hx

theorem setBlock_grown (w : World) (b : Nat) (o : Obj) : w.grownBy (setBlock w b o) (some b) :=
  ⟨rfl, rfl, rfl, by simp [setBlock], fun i _ hne => by
    have : b ≠ i := fun e => hne (by rw [e])
    simp [setBlock, this]⟩

theorem Mp.put_new (K : Keyed P k) (ht : P.underlying t = some (.map k e)) (h : Mp P k w b l) {x v : Value} {lx : Lit} (hx : keyOf P k x = some lx) (hn : ∀ p ∈ l, p.1 ≠ x) :
    ∃ w1, (Instr.mapUpdate t (.map (some b)) x v).run P w = .ok () w1 ∧ Mp P k w1 b (l ++ [(x, v)]) ∧ w.grownBy w1 (some b) := by
  rcases h.find K hx w with ⟨h1, _⟩ | ⟨j, u, _, h2⟩
  · refine ⟨setBlock w b (.map ((ents l).push { key := x, val := v, born := l.length }) (l.length + 1)), ?_, ?_, setBlock_grown w b _⟩
    · simp [Instr.mapUpdate, run_underlying ht, MapKept.run_getObj_map h.heap, K.check w false hx, h1, MapKept.run_setObj_map _ h.heap, Result.andThen, setBlock]
    · refine ⟨?_, ?_, ?_⟩
      · rw [ents_push]
        have := h.lt
        simp [setBlock, this]
      · intro p hp
        rcases List.mem_append.1 hp with hp | hp
        · exact h.keys p hp
        · simp at hp; subst hp; exact ⟨lx, hx⟩
      · intro i j p q hi hj hpq
        rw [List.getElem?_append] at hi hj
        split at hi <;> split at hj
        · exact h.apart i j p q hi hj hpq
        · exfalso
          have hq : q = (x, v) := by
            cases hh : j - l.length with
            | zero => rw [hh] at hj; simpa using hj.symm
            | succ m => rw [hh] at hj; simp at hj
          rw [hq] at hpq
          exact hn p (List.mem_of_getElem? hi) hpq
        · exfalso
          have hp : p = (x, v) := by
            cases hh : i - l.length with
            | zero => rw [hh] at hi; simpa using hi.symm
            | succ m => rw [hh] at hi; simp at hi
          rw [hp] at hpq
          exact hn q (List.mem_of_getElem? hj) hpq.symm
        · have e1 : i - l.length < 1 := by
            have := (List.getElem?_eq_some_iff.1 hi).1; simpa using this
          have e2 : j - l.length < 1 := by
            have := (List.getElem?_eq_some_iff.1 hj).1; simpa using this
          omega
  · exact absurd rfl (hn _ (List.mem_of_getElem? h2))

theorem Mp.put_old (K : Keyed P k) (ht : P.underlying t = some (.map k e)) (h : Mp P k w b l) {x v u : Value} {lx : Lit} {j : Nat} (hx : keyOf P k x = some lx) (hj : l[j]? = some (x, u)) :
    ∃ w1, (Instr.mapUpdate t (.map (some b)) x v).run P w = .ok () w1 ∧ Mp P k w1 b (l.set j (x, v)) ∧ w.grownBy w1 (some b) := by
  rcases h.find K hx w with ⟨_, h2⟩ | ⟨i, u', h1, h2⟩
  · exact absurd rfl (h2 _ (List.mem_of_getElem? hj))
  · have := h.apart i j _ _ h2 hj rfl
    subst this
    have he : (ents l)[i]? = some { key := x, val := u, born := i } := by rw [ents_at, hj]; rfl
    refine ⟨setBlock w b (.map ((ents l).modify i fun e => { e with key := x, val := v }) l.length), ?_, ?_, setBlock_grown w b _⟩
    · simp [Instr.mapUpdate, run_underlying ht, MapKept.run_getObj_map h.heap, K.check w false hx, h1, he, K.stays w hx, MapKept.run_setObj_map _ h.heap, Result.andThen, setBlock]
    · refine ⟨?_, ?_, ?_⟩
      · rw [ents_set l i x v u hj]
        have := h.lt
        simp [setBlock, this]
      · intro p hp
        rcases List.mem_or_eq_of_mem_set hp with hp | rfl
        · exact h.keys p hp
        · exact ⟨lx, hx⟩
      · have key : ∀ (m : Nat) (p : Value × Value), (l.set i (x, v))[m]? = some p → ∃ q : Value × Value, l[m]? = some q ∧ q.1 = p.1 := by
          intro m p hm
          rw [List.getElem?_set] at hm
          split at hm
          · rename_i e; subst e
            split at hm
            · injection hm with hm; exact ⟨_, hj, by rw [← hm]⟩
            · cases hm
          · exact ⟨p, hm, rfl⟩
        intro m n p q hm hn hpq
        obtain ⟨p', h3, h4⟩ := key m p hm
        obtain ⟨q', h5, h6⟩ := key n q hn
        exact h.apart m n p' q' h3 h5 (by rw [h4, h6, hpq])

theorem Mp.len (ht : P.underlying t = some (.map k e)) (h : Mp P k w b l) (ty : TypeId) : (Builtin.len_ #[t] ty #[.map (some b)]).run P w = .ok (.int .i64 l.length) w := by
  simp [Builtin.len_, run_underlying ht, MapKept.run_getObj_map h.heap, Result.andThen, ents_size, goInt]

/-- 'm[k] = v' at the operation, the key being new. -/
theorem wpList_put_new {ops : Array Oper} {rest : List Oper} {o : Oper} {a : Act} {Q : Exit → Act → World → Prop}
    (hg : o.guard = none) (m x v : Operand) (hop : o.op = Op.mapUpdate t m x v) (K : Keyed P k) (ht : P.underlying t = some (.map k e)) (h : Mp P k w b l)
    (hm : a.eval m = .map (some b)) {key val : Value} {lx : Lit} (hx : a.eval x = key) (hv : a.eval v = val) (hkey : keyOf P k key = some lx) (hn : ∀ p ∈ l, p.1 ≠ key)
    (next : ∀ w1, Mp P k w1 b (l ++ [(key, val)]) → w.grownBy w1 (some b) → wpList P ops Q rest (a.put o.dst undef) w1) : wpList P ops Q (o :: rest) a w := by
  refine wpList_plain hg fun K' hK' => ?_
  obtain ⟨w', hrun, r1, r2⟩ := h.put_new (v := val) K ht hkey hn
  unfold Oper.wp
  simp [execOp, hop, hm, hx, hv, hrun, Result.andThen]
  exact hK' _ _ (next w' r1 r2)

/-- 'm[k] = v' at the operation, the key being there. -/
theorem wpList_put_old {ops : Array Oper} {rest : List Oper} {o : Oper} {a : Act} {Q : Exit → Act → World → Prop}
    (hg : o.guard = none) (m x v : Operand) (hop : o.op = Op.mapUpdate t m x v) (K : Keyed P k) (ht : P.underlying t = some (.map k e)) (h : Mp P k w b l)
    (hm : a.eval m = .map (some b)) {key val u : Value} {lx : Lit} {j : Nat} (hx : a.eval x = key) (hv : a.eval v = val) (hkey : keyOf P k key = some lx) (hj : l[j]? = some (key, u))
    (next : ∀ w1, Mp P k w1 b (l.set j (key, val)) → w.grownBy w1 (some b) → wpList P ops Q rest (a.put o.dst undef) w1) : wpList P ops Q (o :: rest) a w := by
  refine wpList_plain hg fun K' hK' => ?_
  obtain ⟨w', hrun, r1, r2⟩ := h.put_old (v := val) K ht hkey hj
  unfold Oper.wp
  simp [execOp, hop, hm, hx, hv, hrun, Result.andThen]
  exact hK' _ _ (next w' r1 r2)
end
end Go.Proofs.YtonadloonidmjaaDoor

/- A range over a map that the call has made: which entries have come, in whatever order. Conditions: no entry is laid or taken out on the way. -/
import Derived.Test.YtonadloonidmjaaDoorMap
import Derived.Maps.RangeRun
import Derived.Maps.RangeWalk
namespace Go.Proofs.YtonadloonidmjaaDoor
open Go.RowKit Go.ChangeMaps Go.Maps

/-- A range over the map in block b (entries l), under way in block r: the entries numbered in 'seen' have come. -/
structure Rg (w : World) (r b : Nat) (l : List (Value × Value)) (seen : List Nat) : Prop where
  it : w.heap[r]? = some (.mapIter (some b) l.length seen.toArray l.length)
  nd : seen.Nodup
  lt : ∀ i ∈ seen, i < l.length

section
variable {P : Program} {k t e : TypeId} {w w' : World} {r b : Nat} {l : List (Value × Value)} {seen : List Nat}
theorem Rg.keep (h : Rg w r b l seen) (hb : w'.heap[r]? = w.heap[r]?) : Rg w' r b l seen := ⟨hb.trans h.it, h.nd, h.lt⟩
theorem Rg.blk (h : Rg w r b l seen) : r < w.heap.size := (Array.getElem?_eq_some_iff.1 h.it).1
theorem Rg.after (h : Rg w r b l seen) (hb : Bw w w') : Rg w' r b l seen := h.keep (hb.block r h.blk)
theorem Rg.grown (h : Rg w r b l seen) {row : Option Nat} (hg : w.grownBy w' row) (hr : some r ≠ row) : Rg w' r b l seen := h.keep (hg.block r h.blk hr)
theorem Rg.len (h : Rg w r b l seen) : seen.length ≤ l.length := by
  have h1 := h.nd.length_le_of_subset (l₂ := List.range l.length) (fun i hi => List.mem_range.2 (h.lt i hi))
  simpa using h1

theorem ents_born (l : List (Value × Value)) {e : MapEntry} (h : e ∈ (ents l).toList) : ∃ i p, l[i]? = some p ∧ e.key = p.1 ∧ e.val = p.2 ∧ e.born = i := by
  obtain ⟨i, hi⟩ := List.mem_iff_getElem?.1 h
  have h2 : (ents l)[i]? = some e := by simpa using hi
  rw [ents_at] at h2
  cases hp : l[i]? with
  | none => rw [hp] at h2; cases h2
  | some p => rw [hp] at h2; injection h2 with h2; exact ⟨i, p, hp, by rw [← h2], by rw [← h2], by rw [← h2]⟩
theorem ents_in (l : List (Value × Value)) {i : Nat} {p : Value × Value} (h : l[i]? = some p) : ({ key := p.1, val := p.2, born := i } : MapEntry) ∈ (ents l).toList := by
  have : (ents l)[i]? = some { key := p.1, val := p.2, born := i } := by rw [ents_at, h]; rfl
  exact List.mem_of_getElem? (i := i) (by simpa using this)
theorem ents_nodup (l : List (Value × Value)) : ((ents l).toList.map (·.born)).Nodup := by
  have : (ents l).toList.map (·.born) = List.range l.length := by
    apply List.ext_getElem?
    intro i
    rw [List.getElem?_map]
    have h1 : (ents l).toList[i]? = (l[i]?).map fun p => ({ key := p.1, val := p.2, born := i } : MapEntry) := by
      have := ents_at l i
      simpa using this
    rw [h1]
    by_cases hi : i < l.length
    · rw [List.getElem?_eq_getElem hi, List.getElem?_range hi]; rfl
    · rw [List.getElem?_eq_none (by omega), List.getElem?_eq_none (by simp; omega)]; rfl
  rw [this]; exact List.nodup_range

/-- The step. -/
theorem Rg.next (h : Rg w r b l seen) (hm : Mp P k w b l) (ty : TypeId) :
    ((∀ i, i < l.length → i ∈ seen) ∧ (Instr.next (.pointer (some ⟨r, 0, none⟩)) false ty).run P w = .ok (.tuple #[.bool false]) w) ∨
    ∃ i key v w', i ∉ seen ∧ l[i]? = some (key, v) ∧ (Instr.next (.pointer (some ⟨r, 0, none⟩)) false ty).run P w = .ok (.tuple #[.bool true, key, v]) w' ∧ Rg w' r b l (seen ++ [i]) ∧ Mp P k w' b l ∧
      w.grownBy w' (some r) ∧ w'.heap.size = w.heap.size ∧ (Instr.entry (.pointer (some ⟨r, 0, none⟩))).run P w' = .ok (.tuple #[key, v]) w' := by
  have hne : r ≠ b := fun e => by
    have h1 := h.it; have h2 := hm.heap
    rw [e, h2] at h1; cases h1
  rcases run_next_at (P := P) w ty r b l.length l.length seen.toArray (ents l) l.length h.it hm.heap (fun x hx => by
      obtain ⟨i, p, hi, _, _, hb⟩ := ents_born l hx
      rw [hb]; exact (List.getElem?_eq_some_iff.1 hi).1) (Nat.le_refl _) with ⟨h0, hrun⟩ | ⟨e, he, w1, hal, hrun⟩
  · refine .inl ⟨fun i hi => ?_, hrun⟩
    by_cases hs : i ∈ seen
    · exact hs
    · exfalso
      have hin := ents_in l (List.getElem?_eq_getElem hi)
      have : ({ key := l[i].1, val := l[i].2, born := i } : MapEntry) ∈ leftOf (ents l) seen.toArray := by
        unfold leftOf
        rw [Array.mem_filter]
        exact ⟨by simpa using hin, by simpa using hs⟩
      rw [Array.eq_empty_of_size_eq_zero h0] at this
      simp at this
  · have hmem : e ∈ (ents l).toList ∧ e.born ∉ seen := by
      unfold leftOf at he
      have := Array.mem_filter.1 (Array.mem_toList_iff.1 he)
      exact ⟨by simpa using this.1, by simpa using this.2⟩
    obtain ⟨i, p, hi, e1, e2, e3⟩ := ents_born l hmem.1
    have hr1 : w1.heap[r]? = some (.mapIter (some b) l.length seen.toArray l.length) := by rcases hal with rfl | rfl <;> exact h.it
    have hb1 : w1.heap[b]? = some (.map (ents l) l.length) := by rcases hal with rfl | rfl <;> exact hm.heap
    have hset : (setBlock w1 r (.mapIter (some b) l.length (seen.toArray.push e.born) l.length)).heap[r]? = some (.mapIter (some b) l.length (seen.toArray.push e.born) l.length) ∧ ∀ r', r' ≠ r → (setBlock w1 r (.mapIter (some b) l.length (seen.toArray.push e.born) l.length)).heap[r']? = w1.heap[r']? := MapKept.heap_set hr1
    have hb' := (hset.2 b (fun e1 => hne e1.symm)).trans hb1
    refine .inr ⟨i, p.1, p.2, _, by rw [← e3]; exact hmem.2, hi, ?_, ⟨?_, ?_, ?_⟩, ⟨hb', hm.keys, hm.apart⟩, ?_, ?_, ?_⟩
    rotate_left 1
    · rw [hset.1]; rw [e3]; simp
    · rw [List.nodup_append]
      refine ⟨h.nd, by simp, fun a ha c hc => ?_⟩
      simp at hc; subst hc
      rintro rfl
      exact hmem.2 (by rw [e3]; exact ha)
    · intro j hj
      rcases List.mem_append.1 hj with hj | hj
      · exact h.lt j hj
      · simp at hj; subst hj; exact (List.getElem?_eq_some_iff.1 hi).1
    · rcases hal with rfl | rfl <;> exact ⟨rfl, rfl, rfl, by simp [setBlock], fun j _ hj => hset.2 j (fun e1 => hj (by rw [e1]))⟩
    · rcases hal with rfl | rfl <;> simp [setBlock]
    · have := run_entry_at (P := P) _ r b l.length seen.toArray (ents l) l.length e hset.1 hb' hmem.1 (ents_nodup l)
      rw [e1, e2] at this; exact this
    · rw [hrun, e1, e2]

/-- 'range m' at the operation. -/
theorem wpList_range_mp {ops : Array Oper} {rest : List Oper} {o : Oper} {a : Act} {Q : Exit → Act → World → Prop} (hg : o.guard = none) (m : Operand) (t : TypeId) (hop : o.op = Op.range t m) (ht : P.underlying t = some (.map k e))
    (hm : a.eval m = .map (some b)) (h : Mp P k w b l)
    (next : ∀ w', Rg w' w.heap.size b l [] → Mp P k w' b l → Bw w w' → w'.heap.size = w.heap.size + 1 → wpList P ops Q rest (a.put o.dst (.pointer (some ⟨w.heap.size, 0, none⟩))) w') : wpList P ops Q (o :: rest) a w := by
  refine wpList_plain hg fun K' hK' => ?_
  have hrun := run_range_map (P := P) w t k e b (ents l) l.length ht h.heap
  unfold Oper.wp
  simp [execOp, hop, hm, hrun, Result.andThen]
  exact hK' _ _ (next _ ⟨heap_alloc_new w _, by simp, fun i hi => by simp at hi⟩ (h.alloc _) ((Below.refl _ _).alloc (Nat.le_refl _) _) (by simp))

/-- The step at the operation. -/
theorem wpList_next_mp {ops : Array Oper} {rest : List Oper} {o : Oper} {a : Act} {Q : Exit → Act → World → Prop} (hg : o.guard = none) (it : Operand) (hop : o.op = Op.next it false) (hit : a.eval it = .pointer (some ⟨r, 0, none⟩))
    (h : Rg w r b l seen) (hm : Mp P k w b l)
    (done : (∀ i, i < l.length → i ∈ seen) → wpList P ops Q rest (a.put o.dst (.tuple #[.bool false])) w)
    (more : ∀ i key v w', i ∉ seen → l[i]? = some (key, v) → Rg w' r b l (seen ++ [i]) → Mp P k w' b l → w.grownBy w' (some r) → w'.heap.size = w.heap.size →
      (Instr.entry (.pointer (some ⟨r, 0, none⟩))).run P w' = .ok (.tuple #[key, v]) w' → wpList P ops Q rest (a.put o.dst (.tuple #[.bool true, key, v])) w') : wpList P ops Q (o :: rest) a w := by
  refine wpList_plain hg fun K' hK' => ?_
  unfold Oper.wp
  rcases h.next hm o.type with ⟨h0, hrun⟩ | ⟨i, key, v, w', h1, h2, hrun, h3, h4, h5, h6, h7⟩
  · simp [execOp, hop, hit, hrun, Result.andThen]
    exact hK' _ _ (done h0)
  · simp [execOp, hop, hit, hrun, Result.andThen]
    exact hK' _ _ (more i key v w' h1 h2 h3 h4 h5 h6 h7)
end
end Go.Proofs.YtonadloonidmjaaDoor

/- A slice of the call's own under the library's sorts, of whatever data: from what it reads as to the row that the sort speaks of, and back. Conditions: none; over any program. -/
import Derived.Test.YtonadloonidmjaaDoorTail
import Derived.Shelf.GgSortFunc.InsertionK
import Derived.Shelf.SlSortCmp.InsertionK
import Derived.Sort.OwnSorted
namespace Go.Proofs.YtonadloonidmjaaDoor
open Go.RowKit Go.Sort

/-- An element: its cells and what they read as (in the world of the call). -/
structure ElV {β : Type} (T : Ty β) (w : World) (D : Nat → Prop) where
  cs : List Value
  x : β
  ok : T.rep w D cs x

section
variable {β : Type} {T : Ty β} {e : TypeId} {w : World} {base g n cap : Nat} {D : Nat → Prop} {xs : List β}

def encV (p : ElV T w D) : List Value := p.cs
theorem encV_len (p : ElV T w D) : (encV p).length = T.size := T.len p.ok
theorem encV_one (p : ElV T w D) : ∀ v ∈ encV p, v.oneCell' = true := T.one p.ok

theorem flatK_list [Inhabited (ElV T w D)] (d : Array (ElV T w D)) : (flatK encV T.size d).toList = (d.toList.map encV).flatten := by
  have hl : ∀ cs ∈ d.toList.map encV, cs.length = T.size := by
    intro cs hcs
    obtain ⟨p, _, rfl⟩ := List.mem_map.1 hcs
    exact encV_len p
  have hfl : (d.toList.map encV).flatten.length = d.size * T.size := by rw [flatten_len hl]; simp
  have hsz : (flatK encV T.size d).toList.length = d.size * T.size := by simp
  apply List.ext_getElem (by rw [hsz, hfl])
  intro t h1 h2
  have ht : t < d.size * T.size := by omega
  have hj : t / T.size < d.size := (Nat.div_lt_iff_lt_mul T.pos).2 ht
  have hi : t % T.size < T.size := Nat.mod_lt _ T.pos
  have hp := encV_len (d[t / T.size]'hj)
  have e1 := flatten_at hl (t / T.size) (t % T.size) (encV (d[t / T.size]'hj)) ((encV (d[t / T.size]'hj))[t % T.size]'(by omega)) (by simp [hj]) (List.getElem?_eq_getElem (by omega))
  rw [Nat.mul_comm, Nat.div_add_mod, List.getElem?_eq_getElem h2] at e1
  injection e1 with e1
  rw [e1, Array.getElem_toList, ← getElem!_pos _ t (by simpa using ht), get_flatK _ _ _ _ ht, getElem!_pos d _ hj, getElem!_pos _ _ (by rw [hp]; exact hi)]

theorem grown_sortK [Inhabited (ElV T w D)] (m : Nat) (d : Array (ElV T w D)) (os : Array Obj) : w.grownBy (sortWorldK encV T.size w g 0 m d os) (some g) := by
  refine ⟨rfl, rfl, rfl, by simp [sortWorldK, putRowK, putRow, mapBlock, Sort.ahead, grow], fun k hk hne => ?_⟩
  unfold sortWorldK
  rw [heap_grow_old _ _ (by simpa [putRowK, putRow, mapBlock, Sort.ahead] using hk)]
  have : g ≠ k := fun e => hne (by rw [e])
  simp [putRowK, putRow, mapBlock, Sort.ahead, Array.getElem?_modify, this]
theorem size_sortK [Inhabited (ElV T w D)] (m : Nat) (d : Array (ElV T w D)) (os : Array Obj) : w.heap.size ≤ (sortWorldK encV T.size w g 0 m d os).heap.size := (grown_sortK m d os).size

/-- An element reads in every world of the sort's as it read ahead of it. -/
theorem ElV.at [Inhabited (ElV T w (fun b => base ≤ b ∧ b ≠ g))] (p : ElV T w (fun b => base ≤ b ∧ b ≠ g)) (m : Nat) (d : Array (ElV T w (fun b => base ≤ b ∧ b ≠ g))) (os : Array Obj) :
    T.rep (sortWorldK encV T.size w g 0 m d os) (fun b => b < (sortWorldK encV T.size w g 0 m d os).heap.size) p.cs p.x :=
  T.keep (T.lt p.ok) fun b hb => ⟨Nat.lt_of_lt_of_le hb.2 (size_sortK m d os), (grown_sortK m d os).block b hb.2 (fun e => by injection e with e; exact hb.1.2 e)⟩

/-- From a slice of the call's own to the row. -/
theorem Acc.els {v : Value} (h : Acc T e w base v xs) (hx : 0 < xs.length) :
    ∃ g cap, v = .slice (some ⟨g, 0, none⟩) xs.length cap ∧ base ≤ g ∧ g < w.heap.size ∧ xs.length ≤ cap ∧ ∃ (_ : Inhabited (ElV T w (fun b => base ≤ b ∧ b ≠ g))) (d : Array (ElV T w (fun b => base ≤ b ∧ b ≠ g))),
      d.toList.map (·.x) = xs ∧ HoldsK encV T.size w g 0 d := by
  obtain ⟨css, h1, h2, h3⟩ := h
  rcases h1.2 with ⟨rfl, h0⟩ | ⟨g, cap, cur, rfl, hbg, hg, hn, hc, hsz, htk⟩
  · omega
  · have hgl : g < w.heap.size := (Array.getElem?_eq_some_iff.1 hg).1
    have hel : ∀ j, j < xs.length → ∃ p : ElV T w (fun b => base ≤ b ∧ b ≠ g), css[j]? = some p.cs ∧ xs[j]? = some p.x := fun j hj => by
      have hcs := List.getElem?_eq_getElem (l := css) (i := j) (by omega)
      have hxx := List.getElem?_eq_getElem hj
      exact ⟨⟨_, _, T.keep (h3 j _ _ hxx hcs) fun b hb => ⟨⟨hb.1, fun e => hb.2 (by rw [e]; rfl)⟩, rfl⟩⟩, hcs, hxx⟩
    have hch : ∃ f : (j : Nat) → j < xs.length → ElV T w (fun b => base ≤ b ∧ b ≠ g), ∀ j hj, css[j]? = some (f j hj).cs ∧ xs[j]? = some (f j hj).x :=
      ⟨fun j hj => Classical.choose (hel j hj), fun j hj => Classical.choose_spec (hel j hj)⟩
    obtain ⟨f, hf⟩ := hch
    let I : Inhabited (ElV T w (fun b => base ≤ b ∧ b ≠ g)) := ⟨f 0 hx⟩
    refine ⟨g, cap, rfl, hbg, hgl, hn, I, Array.ofFn fun j : Fin xs.length => f j.1 j.2, ?_, ?_⟩
    · apply List.ext_getElem?
      intro j
      by_cases hj : j < xs.length
      · rw [List.getElem?_map]
        have : (Array.ofFn fun j : Fin xs.length => f j.1 j.2).toList[j]? = some (f j hj) := by simp [hj]
        rw [this, (hf j hj).2]; rfl
      · rw [List.getElem?_eq_none (by simp; omega), List.getElem?_eq_none (by omega)]
    · have hmap : (Array.ofFn fun j : Fin xs.length => f j.1 j.2).toList.map encV = css := by
        apply List.ext_getElem?
        intro j
        by_cases hj : j < xs.length
        · rw [List.getElem?_map]
          have : (Array.ofFn fun j : Fin xs.length => f j.1 j.2).toList[j]? = some (f j hj) := by simp [hj]
          rw [this, (hf j hj).1]; rfl
        · rw [List.getElem?_eq_none (by simp; omega), List.getElem?_eq_none (by omega)]
      intro j hj
      have hj' : j < (flatK encV T.size (Array.ofFn fun j : Fin xs.length => f j.1 j.2)).size := hj
      have hl := flatK_list (Array.ofFn fun j : Fin xs.length => f j.1 j.2)
      rw [hmap, ← htk] at hl
      rw [Nat.zero_add]
      refine ⟨?_, frozen_of_cells hg⟩
      rw [cell_of_row w g j cur e (0, 0) hg, getElem!_pos _ j hj']
      have := congrArg (fun l => l[j]?) hl
      simp only [Array.getElem?_toList, List.getElem?_take] at this
      rw [Array.getElem?_eq_getElem hj'] at this
      split at this
      · rw [id, this]
      · cases this

/-- .. and back. -/
theorem els_back [Inhabited (ElV T w (fun b => base ≤ b ∧ b ≠ g))] (h : Acc T e w base (.slice (some ⟨g, 0, none⟩) n cap) xs) (d : Array (ElV T w (fun b => base ≤ b ∧ b ≠ g))) (hd : d.size = n) (m : Nat) (os : Array Obj) :
    Acc T e (sortWorldK encV T.size w g 0 m d os) base (.slice (some ⟨g, 0, none⟩) n cap) (d.toList.map (·.x)) := by
  obtain ⟨css, h1, h2, h3⟩ := h
  have hl : ∀ cs ∈ d.toList.map encV, cs.length = T.size := by
    intro cs hcs
    obtain ⟨p, _, rfl⟩ := List.mem_map.1 hcs
    exact encV_len p
  have hfl : (d.toList.map encV).flatten.length = n * T.size := by rw [flatten_len hl]; simp [hd]
  rcases h1.2 with ⟨h0, _⟩ | ⟨g', cap', cur, h0, hbg, hg, hn, hc, hsz, htk⟩
  · cases h0
  · injection h0 with e1 e2 e3
    injection e1 with e1; injection e1 with e1
    subst e1; subst e3
    have hxl : xs.length = n := e2.symm
    refine ⟨d.toList.map encV, ⟨by rw [hfl]; simp [hd], .inr ⟨g, cap, putCells id 0 (flatK encV T.size d) cur, by simp [hd], hbg, ?_, by simp [hd]; omega, hc, by simp [putCells, hsz], ?_⟩⟩, by simp, ?_⟩
    · unfold sortWorldK
      have hgl : g < w.heap.size := (Array.getElem?_eq_some_iff.1 hg).1
      rw [heap_grow_old _ _ (by simpa [putRowK, putRow, mapBlock, Sort.ahead] using hgl)]
      simp [putRowK, putRow, mapBlock, Sort.ahead, Array.getElem?_modify, hg, onCells]
    · have hkl := flatK_list d
      rw [← hkl]
      apply List.ext_getElem?
      intro j
      rw [List.getElem?_take]
      have hfs : (flatK encV T.size d).size = n * T.size := by simp [hd]
      have hcs : n * T.size ≤ cur.size := by rw [hsz]; exact Nat.mul_le_mul_right _ (by omega)
      by_cases hj : j < n * T.size
      · rw [if_pos (by simpa [hd] using hj)]
        have hj2 : j < (flatK encV T.size d).size := by rw [hfs]; exact hj
        have : j < cur.size := by omega
        have hjd : j < d.size * T.size := by rw [hd]; exact hj
        rw [show (putCells id 0 (flatK encV T.size d) cur).toList[j]? = some (flatK encV T.size d)[j]! by simp [putCells, this, hjd]]
        rw [Array.getElem?_toList, Array.getElem?_eq_getElem hj2, getElem!_pos _ j hj2]
      · rw [if_neg (by simpa [hd] using hj), List.getElem?_eq_none (by simp [hd]; omega)]
    · intro j x cs hj hc
      rw [List.getElem?_map] at hj hc
      cases hp : d.toList[j]? with
      | none => rw [hp] at hj; cases hj
      | some p =>
        rw [hp] at hj hc
        injection hj with hj; injection hc with hc
        subst hj; subst hc
        exact T.keep (T.lt p.ok) fun b hb => ⟨⟨hb.1.1, fun e => hb.1.2 (by injection e)⟩, (grown_sortK m d os).block b hb.2 (fun e => by injection e with e; exact hb.1.2 e)⟩
end
end Go.Proofs.YtonadloonidmjaaDoor

/- The plain law of the library's sort and Compact of texts: together they give the list of the different texts in order. Conditions: none. -/
import Derived.Test.YtonadloonidmjaaDoorGQ
import Derived.Lib.RowBridge
import Derived.Shelf.SlSortCmp.Insertion
namespace Go.Proofs.YtonadloonidmjaaDoor
open Go Go.Sort

abbrev cb : List UInt8 → List UInt8 → Int := Lib.compareBytes
theorem totC : Tot cb where
  zero a b := ⟨fun h => cb_zero _ _ h, fun h => by subst h; exact cb_self _⟩
  anti a b := cb_anti _ _
  trans a b d := cb_trans _ _ _
theorem totC_ntrans {a b c : List UInt8} (h1 : ¬ cb b a < 0) (h2 : ¬ cb c b < 0) : ¬ cb c a < 0 := by
  rcases totC.tri a b with h | rfl | h
  · rcases totC.tri b c with h' | rfl | h'
    · exact totC.asym (totC.trans _ _ _ h h')
    · exact h1
    · exact absurd h' h2
  · exact h2
  · exact absurd h h1
theorem ltC_swo : SWO (ltOf cb) where
  irrefl x := by unfold ltOf; rw [decide_eq_false_iff_not, totC.self]; omega
  trans x y z h1 h2 := by unfold ltOf at *; rw [decide_eq_true_iff] at *; exact totC.trans _ _ _ h1 h2
  ntrans x y z h1 h2 := by unfold ltOf at *; rw [decide_eq_false_iff_not] at *; exact totC_ntrans h2 h1
theorem ltC_one (x y : List UInt8) (h1 : ltOf cb x y = false) (h2 : ltOf cb y x = false) : x = y := by
  unfold ltOf at *
  rw [decide_eq_false_iff_not] at *
  rcases totC.tri x y with h | h | h
  · exact absurd h h1
  · exact h
  · exact absurd h h2

/-- The texts sorted, as the library's sort leaves them. -/
def srt (l : List (List UInt8)) : List (List UInt8) := l.mergeSort fun x y => !ltOf cb y x
theorem srt_perm (l : List (List UInt8)) : (srt l).Perm l := List.mergeSort_perm _ _
theorem srt_sorted (l : List (List UInt8)) : (srt l).Pairwise fun x y => ¬ cb y x < 0 := by
  have h := List.pairwise_mergeSort (le := fun x y => !ltOf cb y x) (fun a b c h1 h2 => by
    unfold ltOf at *
    simp only [Bool.not_eq_true', decide_eq_false_iff_not] at *
    exact totC_ntrans h1 h2) (fun a b => by
    unfold ltOf
    simp only [Bool.or_eq_true, Bool.not_eq_true', decide_eq_false_iff_not]
    by_cases h : cb b a < 0
    · exact .inr (totC.asym h)
    · exact .inl h) l
  refine h.imp fun {a b} h => ?_
  unfold ltOf at h
  simpa using h

theorem comp_spec {d : Array (List UInt8)} (hs : ∀ i j, i < j → j < d.size → ¬ cb d[j]! d[i]! < 0) : ∀ m, m ≤ d.size → (Lib.compactUpTo d m).Pairwise (fun x y => cb x y < 0) ∧ ∀ y, y ∈ Lib.compactUpTo d m ↔ ∃ j, j < m ∧ d[j]! = y
  | 0, _ => ⟨by unfold Lib.compactUpTo; simp, fun y => by unfold Lib.compactUpTo; simp⟩
  | m + 1, hm => by
    obtain ⟨h1, h2⟩ := comp_spec hs m (by omega)
    rw [Lib.compactUpTo_succ]
    have hall : ∀ y, (∃ j, j < m + 1 ∧ d[j]! = y) ↔ (∃ j, j < m ∧ d[j]! = y) ∨ y = d[m]! := fun y => by
      constructor
      · rintro ⟨j, hj, e⟩
        by_cases hjm : j = m
        · subst hjm; exact .inr e.symm
        · exact .inl ⟨j, by omega, e⟩
      · rintro (⟨j, hj, e⟩ | e)
        · exact ⟨j, by omega, e⟩
        · exact ⟨m, by omega, e.symm⟩
    cases hk : Lib.keeps d m
    · unfold Lib.keeps at hk
      rw [decide_eq_false_iff_not] at hk
      have hm0 : 0 < m := by
        by_cases h0 : m = 0
        · exact absurd (.inl h0) hk
        · omega
      have he : d[m]! = d[m - 1]! := by
        by_cases he : d[m]! = d[m - 1]!
        · exact he
        · exact absurd (.inr he) hk
      refine ⟨by simpa using h1, fun y => ?_⟩
      rw [hall]
      simp only [Bool.false_eq_true, if_false, List.append_nil]
      rw [h2]
      constructor
      · exact .inl
      · rintro (h | h)
        · exact h
        · exact ⟨m - 1, by omega, by rw [h, he]⟩
    · simp only [if_true]
      constructor
      · rw [List.pairwise_append]
        refine ⟨h1, by simp, fun y hy z hz => ?_⟩
        have hz : z = d[m]! := by simpa using hz
        subst hz
        obtain ⟨j, hj, rfl⟩ := (h2 y).1 hy
        rcases totC.tri d[j]! d[m]! with h | h | h
        · exact h
        · exfalso
          unfold Lib.keeps at hk
          rw [decide_eq_true_iff] at hk
          rcases hk with h0 | h0
          · omega
          · by_cases hj1 : j = m - 1
            · subst hj1; exact h0 h.symm
            · have a1 := hs j (m - 1) (by omega) (by omega)
              have a2 := hs (m - 1) m (by omega) (by omega)
              rw [← h] at a2
              rcases totC.tri d[j]! d[m - 1]! with h' | h' | h'
              · exact a2 h'
              · exact h0 (h.symm.trans h')
              · exact a1 h'
        · exact absurd h (hs j m hj (by omega))
      · intro y
        rw [hall, List.mem_append, h2]; simp
/-- The bytes of a text, the text of bytes. -/
def bsT (l : List UInt8) : ByteArray := ⟨l.toArray⟩
theorem bsT_data (s : ByteArray) : bsT s.data.toList = s := by cases s; simp [bsT]
theorem data_bsT (l : List UInt8) : (bsT l).data.toList = l := by simp [bsT]
theorem cmp_bsT (a b : List UInt8) : cmpB (bsT a) (bsT b) = cb a b := by unfold cmpB; rw [data_bsT, data_bsT]

theorem compact_whole (l : List ByteArray) : (Lib.compact (srt (l.map (·.data.toList)))).map bsT = wholeE l := by
  have hs := srt_sorted (l.map (·.data.toList))
  have hp := srt_perm (l.map (·.data.toList))
  generalize srt (l.map (·.data.toList)) = zs at *
  obtain ⟨h1, h2⟩ := comp_spec (d := zs.toArray) (fun i j hij hj => by
    have hj' : j < zs.length := by simpa using hj
    have := List.pairwise_iff_getElem.1 hs i j (by omega) hj' hij
    rw [getElem!_pos zs.toArray i (by simp; omega), getElem!_pos zs.toArray j hj]
    simpa using this) zs.length (by simp)
  have h1 : (Lib.compact zs).Pairwise (fun x y => cb x y < 0) := h1
  refine wholeE_of ?_ fun e => ?_
  · unfold SS
    rw [List.pairwise_map]
    exact h1.imp fun {a b} h => by rw [cmp_bsT]; exact h
  · rw [List.mem_map]
    constructor
    · rintro ⟨y, hy, rfl⟩
      obtain ⟨j, hj, e⟩ := (h2 y).1 hy
      have : y ∈ zs := by
        rw [← e, getElem!_pos zs.toArray j (by simpa using hj)]
        simp
      obtain ⟨s, hs, rfl⟩ := List.mem_map.1 (hp.mem_iff.1 this)
      rw [bsT_data]; exact hs
    · intro he
      have hz : e.data.toList ∈ zs := hp.mem_iff.2 (List.mem_map.2 ⟨e, he, rfl⟩)
      obtain ⟨j, hj⟩ := List.mem_iff_getElem?.1 hz
      obtain ⟨hlt, hj⟩ := List.getElem?_eq_some_iff.1 hj
      refine ⟨e.data.toList, (h2 _).2 ⟨j, hlt, ?_⟩, bsT_data e⟩
      rw [getElem!_pos zs.toArray j (by simpa using hlt)]
      simpa using hj
end Go.Proofs.YtonadloonidmjaaDoor

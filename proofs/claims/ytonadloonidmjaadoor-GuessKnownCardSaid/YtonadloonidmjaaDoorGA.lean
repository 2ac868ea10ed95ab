/- The contracts of the law's nouns and end; what the chapter's examples learn and guess. Conditions: none. -/
import Derived.Test.YtonadloonidmjaaDoorGM
import Derived.Test.YtonadloonidmjaaDoorGW
namespace Go.Proofs.YtonadloonidmjaaDoor
open Go.RowKit
open Pl

def sN : ByteArray := ⟨#[78]⟩
def sV : ByteArray := ⟨#[86]⟩
def nounsL : List Kn := [([1, 2], sN), ([3, 2], sV), ([4, 3, 2], sV)]

/-- A list of known words, laid. -/
theorem sl_kn {w : World} {D : Nat → Prop} {g : Nat} {us : List Value} {xs : List Kn} {e : TypeId} {fz : Nat × Nat} (hg : w.heap[g]? = some (.cells us.toArray e fz)) (hD : D g) (hl : xs.length ≤ maxLen)
    (hx : ∀ j x, xs[j]? = some x → ∃ u, us[2 * j]? = some u ∧ us[2 * j + 1]? = some (.string x.2) ∧ Sl tInt w D u x.1 ∧ x.2.size ≤ maxLen) : Sl tKn w D (.slice (some ⟨g, 0, none⟩) xs.length xs.length) xs := by
  refine ⟨_, _, rfl, Nat.le_refl _, hl, .inr ⟨g, 0, rfl, hD, fun j x hj => ?_⟩⟩
  obtain ⟨u, h1, h2, h3, h4⟩ := hx j x hj
  refine ⟨[u, .string x.2], kn_mk h3 h4, fun i v hi => ?_⟩
  have hs : tKn.size = 2 := rfl
  rw [hs, Nat.zero_add, cell_of_row w g _ _ e fz hg]
  match i, hi with
  | 0, hi => simp at hi; subst hi; rw [Nat.add_zero, Nat.mul_comm]; simpa using h1
  | 1, hi => simp at hi; subst hi; rw [Nat.mul_comm]; simpa using h2
/-- A list of endings, laid. -/
theorem sl_en {w : World} {D : Nat → Prop} {g : Nat} {us : List Value} {xs : List En} {e : TypeId} {fz : Nat × Nat} (hg : w.heap[g]? = some (.cells us.toArray e fz)) (hD : D g) (hl : xs.length ≤ maxLen)
    (hx : ∀ j x, xs[j]? = some x → ∃ u, us[3 * j]? = some u ∧ us[3 * j + 1]? = some (.string x.2.1) ∧ us[3 * j + 2]? = some (.int .i64 x.2.2) ∧ Sl tInt w D u x.1 ∧ x.2.1.size ≤ maxLen ∧ inI64 x.2.2) : Sl tEn w D (.slice (some ⟨g, 0, none⟩) xs.length xs.length) xs := by
  refine ⟨_, _, rfl, Nat.le_refl _, hl, .inr ⟨g, 0, rfl, hD, fun j x hj => ?_⟩⟩
  obtain ⟨u, h1, h2, h3, h4, h5, h6⟩ := hx j x hj
  refine ⟨[u, .string x.2.1, .int .i64 x.2.2], en_mk h4 h5 h6, fun i v hi => ?_⟩
  have hs : tEn.size = 3 := rfl
  rw [hs, Nat.zero_add, cell_of_row w g _ _ e fz hg]
  match i, hi with
  | 0, hi => simp at hi; subst hi; rw [Nat.add_zero, Nat.mul_comm]; simpa using h1
  | 1, hi => simp at hi; subst hi; rw [Nat.mul_comm]; simpa using h2
  | 2, hi => simp at hi; subst hi; rw [Nat.mul_comm]; simpa using h3

theorem size37 : (Tryd.prog.info? 37).map (·.size) = some 3 := by kernel_rfl
theorem end_any {t : ByteArray} {n : Int} {x : Value} {w : World} (h : ∃ A m c, x = .slice A m c) : Calls Tryd.prog 14 #[.string t, .int .i64 n, x] w fun e w' => e = .returned (.agg #[x, .string t, .int .i64 n]) ∧ Bw w w' := by
  obtain ⟨A, m, c, rfl⟩ := h
  go_enter Tryd.func14, Tryd.ntmps14
  go_wp2_with fail
  (try simp only [Exit.inBlock, Exit.then])
  refine bodyPost_ret (results_cell_row rfl _ _ w.heap.size 37 _ (0, 0) _ rfl (at_new rfl) Tryd.underlying37 rfl size37) rfl ?_
  exact ⟨rfl, bw_refl_al _ _⟩
theorem sl_ints {w : World} {D : Nat → Prop} {g : Nat} {xs : List Int} {n : Nat} {e : TypeId} {fz : Nat × Nat} (hg : w.heap[g]? = some (.cells (xs.map (Value.int .i64)).toArray e fz)) (hD : D g) (hn : n = xs.length) (hl : xs.length ≤ 100)
    (hr : (xs.all fun y => decide (0 ≤ y) && decide (y ≤ 1000)) = true) : Sl tInt w D (.slice (some ⟨g, 0, none⟩) n n) xs := by
  subst hn
  refine sl_lit hg hD (by simp [maxLen]; omega) fun y hy => ?_
  have := List.all_eq_true.1 hr y hy
  simp at this
  omega
theorem nouns_any {w : World} : Calls Tryd.prog 12 #[] w (Fr tKn w nounsL) := by
  go_enter Tryd.func12, Tryd.ntmps12
  go_wp2_with fail
  go_ret
  obtain ⟨W, hW⟩ : ∃ W, W = ((((w.alloc (Obj.cells #[Value.int IntKind.i64 1, Value.int IntKind.i64 2] 3)).alloc (Obj.cells #[Value.int IntKind.i64 3, Value.int IntKind.i64 2] 3)).alloc (Obj.cells #[Value.int IntKind.i64 4, Value.int IntKind.i64 3, Value.int IntKind.i64 2] 3)).alloc
      (Obj.cells #[Value.slice (some { block := w.heap.size, off := 0 }) 2 2, Value.string { data := #[78] }, Value.slice (some { block := w.heap.size + 1, off := 0 }) 2 2, Value.string { data := #[86] }, Value.slice (some { block := w.heap.size + 1 + 1, off := 0 }) 3 3, Value.string { data := #[86] }] 27)) := ⟨_, rfl⟩
  have hb : Bw w W := by rw [hW]; exact bw_al (bw_al (bw_al (bw_refl_al _ _) _) _) _
  have h0 : W.heap[w.heap.size]? = some (.cells (([1, 2] : List Int).map (Value.int .i64)).toArray 3 (0, 0)) := by rw [hW]; exact at_old (at_old (at_old (at_new rfl)))
  have h1 : W.heap[w.heap.size + 1]? = some (.cells (([3, 2] : List Int).map (Value.int .i64)).toArray 3 (0, 0)) := by rw [hW]; exact at_old (at_old (at_new (by simp)))
  have h2 : W.heap[w.heap.size + 1 + 1]? = some (.cells (([4, 3, 2] : List Int).map (Value.int .i64)).toArray 3 (0, 0)) := by rw [hW]; exact at_old (at_new (by simp))
  have h3 : W.heap[w.heap.size + 1 + 1 + 1]? = some (.cells [Value.slice (some { block := w.heap.size, off := 0 }) 2 2, Value.string { data := #[78] }, Value.slice (some { block := w.heap.size + 1, off := 0 }) 2 2, Value.string { data := #[86] }, Value.slice (some { block := w.heap.size + 1 + 1, off := 0 }) 3 3, Value.string { data := #[86] }].toArray 27 (0, 0)) := by rw [hW]; exact at_new (by simp)
  rw [← hW]
  refine ⟨_, rfl, hb, sl_kn (xs := nounsL) h3 (by show w.heap.size ≤ _; omega) (by decide) fun j x hj => ?_⟩
  match j, hj with
  | 0, hj => injection hj with hj; subst hj; exact ⟨_, rfl, rfl, sl_ints h0 (by show w.heap.size ≤ _; omega) rfl (by decide) rfl, by decide⟩
  | 1, hj => injection hj with hj; subst hj; exact ⟨_, rfl, rfl, sl_ints h1 (by show w.heap.size ≤ _; omega) rfl (by decide) rfl, by decide⟩
  | 2, hj => injection hj with hj; subst hj; exact ⟨_, rfl, rfl, sl_ints h2 (by show w.heap.size ≤ _; omega) rfl (by decide) rfl, by decide⟩

def oneL : List En := [([], sN, 1), ([], sV, 2), ([2], sN, 1), ([2], sV, 2)]
def twoL : List En := [([], sN, 1), ([], sV, 2), ([2], sN, 1), ([2], sV, 2), ([1, 2], sN, 1), ([3, 2], sV, 2)]
theorem learn1 : learnP nounsL 1 = (oneL, 0) := by kernel_rfl
theorem learn2 : learnP nounsL 2 = (twoL, 0) := by kernel_rfl
theorem guess1 : guessP oneL [9, 2] = ([([2], sV, 2), ([2], sN, 1)], 0) := by kernel_rfl
theorem guess2 : guessP twoL [3, 2] = ([([3, 2], sV, 2)], 0) := by kernel_rfl
theorem guess3 : guessP twoL [9] = ([([], sV, 2), ([], sN, 1)], 0) := by kernel_rfl
theorem guess4 : guessP [] [9] = ([], 4) := by kernel_rfl
theorem whole1 : wholeP nounsL [3, 2] = [sV] := by kernel_rfl

/-- Of fewer than 20 endings, the stable sort sorts all. -/
theorem stable_few {g : List En} (hv : validG g = true) (h : g.length < 20) (y : List Int) (hy : atW g y ≠ []) : StableAt (atW g y) := by
  intro v base w hA
  have hl : (atW g y).length ≤ g.length := List.length_filter_le _ _
  exact stable_small hA (List.length_pos_iff.2 hy) (by omega) (atW_dt (validG_sorted hv) y)
theorem guess_few {v u : Value} {g : List En} {x : List Int} {w : World} (hT : Tb w) (h : Rd tEn w v g) (hx : Rd tInt w u x) (hl : g.length < 20) : Calls Tryd.prog 13 #[v, u] w (GuessR g x w) :=
  guess_any hT h hx fun hv y hy => stable_few hv hl y hy
end Go.Proofs.YtonadloonidmjaaDoor

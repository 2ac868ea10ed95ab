/- Plain laws: the text of the tokens of a text; the tokens of the text of a word. Conditions: as stated; no program in sight. -/
import Derived.Test.YtfdmpbihepkjnaaDoorPlain6
namespace Go.Proofs.YtfdmpbihepkjnaaDoor.Pl

/-- The bytes of a symbol's name. -/
def nmB (t : List ByteArray) (y : Int) : List UInt8 := (t.getD (y - 1).toNat ⟨#[]⟩).data.toList
def catL (t : List ByteArray) (l : List Int) : List UInt8 := l.flatMap (nmB t)
theorem catL_snoc (t : List ByteArray) (l : List Int) (y : Int) : catL t (l ++ [y]) = catL t l ++ nmB t y := by simp [catL]
theorem cat_catL (t : List ByteArray) (x : List Int) : ∀ k, k ≤ x.length → catTo t x k = catL t (x.take k)
  | 0, _ => by simp [catTo, catL]
  | k + 1, h => by
    have hk : x[k]? = some (x.getD k 0) := by rw [List.getD_eq_getElem?_getD, List.getElem?_eq_getElem (by omega)]; rfl
    rw [catTo, cat_catL t x k (by omega), List.take_add_one, hk, Option.toList_some, catL_snoc]
    rfl
theorem ext_list (x : ByteArray) (a n : Nat) : (x.extract a (a + n)).data.toList = (x.data.toList.take (a + n)).drop a := by
  simp
  rw [List.drop_take]
  congr 1
  omega
theorem catL_app (t : List ByteArray) (a b : List Int) : catL t (a ++ b) = catL t a ++ catL t b := by simp [catL]
theorem mid_drop {α : Type} (P N R : List α) : ((P ++ N ++ R).take (P.length + N.length)).drop P.length = N := by
  rw [List.take_append_of_le_length (by rw [List.length_append]; omega), List.take_of_length_le (by rw [List.length_append]; omega), List.drop_left]
theorem take_ext {x : ByteArray} {a n : Nat} : x.data.toList.take a ++ (x.extract a (a + n)).data.toList = x.data.toList.take (a + n) := by
  rw [ext_list]
  have h : x.data.toList.take a = (x.data.toList.take (a + n)).take a := by rw [List.take_take, Nat.min_eq_left (by omega)]
  rw [h, List.take_append_drop]

theorem fin_ok {acc l : List Int} {z : Int} (h : fin acc = (l, z, 0)) : l = acc ∧ acc.length ≤ 200 := by
  unfold fin at h
  split at h
  · injection h with _ h; injection h with _ h; cases h
  · injection h with h _; exact ⟨h.symm, by omega⟩

/-- The text of the tokens. -/
theorem tok_text (t : List ByteArray) (x : ByteArray) : ∀ f a acc l z, x.size ≤ a + f → a ≤ x.size → catL t acc = x.data.toList.take a → (∀ y ∈ acc, inT t y = true) → tokF t x f a acc = (l, z, 0) →
    catL t l = x.data.toList ∧ (∀ y ∈ l, inT t y = true) ∧ l.length ≤ 200
  | 0, a, acc, l, z, hf, ha, hc, hi, h => by
    obtain ⟨rfl, h2⟩ := fin_ok h
    refine ⟨?_, hi, h2⟩
    rw [hc, List.take_of_length_le (by rw [Array.length_toList]; show x.size ≤ a; omega)]
  | f + 1, a, acc, l, z, hf, ha, hc, hi, h => by
    rw [tokF] at h
    by_cases h1 : x.size ≤ a
    · rw [if_pos h1] at h
      obtain ⟨rfl, h2⟩ := fin_ok h
      refine ⟨?_, hi, h2⟩
      rw [hc, List.take_of_length_le (by rw [Array.length_toList]; show x.size ≤ a; omega)]
    · rw [if_neg h1] at h
      cases hr : rl t x a t.length with
      | mk s n =>
        rw [hr] at h
        simp only at h
        by_cases hs : s = 0
        · rw [if_pos hs] at h
          injection h with _ h; injection h with _ h; cases h
        · rw [if_neg hs] at h
          obtain ⟨n1, n2, n3, n4, n5⟩ := rl_step hr hs
          refine tok_text t x f (a + n) (acc ++ [(s : Int)]) l z (by omega) n2 ?_ ?_ h
          · rw [catL_snoc, hc]
            have : nmB t (s : Int) = (x.extract a (a + n)).data.toList := by
              unfold nmB
              rw [show ((s : Int) - 1).toNat = s - 1 by omega, n5]
            rw [this, take_ext]
          · intro y hy
            rcases List.mem_append.1 hy with hy | hy
            · exact hi y hy
            · simp at hy; subst hy
              unfold inT; rw [decide_eq_true (by omega), decide_eq_true (by omega)]; rfl

/-- A name is a beginning of another one. -/
def beg2 (t : List ByteArray) (i k : Nat) : Bool := decide (i ≠ k) && decide ((t.getD i ⟨#[]⟩).size ≤ (t.getD k ⟨#[]⟩).size) && decide ((t.getD k ⟨#[]⟩).extract 0 (t.getD i ⟨#[]⟩).size = t.getD i ⟨#[]⟩)
def begB (t : List ByteArray) : Bool := anyR t.length fun i => anyR t.length fun k => beg2 t i k

theorem ba_ext {x y : ByteArray} (h : x.data.toList = y.data.toList) : x = y := by
  obtain ⟨⟨a⟩⟩ := x
  obtain ⟨⟨b⟩⟩ := y
  simp at h
  rw [h]
theorem two_stand {x y z : ByteArray} {a : Nat} (h1 : standsB x a y = true) (h2 : standsB x a z = true) (h : y.size ≤ z.size) : z.extract 0 y.size = y := by
  obtain ⟨s1, s2⟩ := stands_ext h1
  obtain ⟨s3, s4⟩ := stands_ext h2
  apply ba_ext
  have e1 : (z.extract 0 y.size).data.toList = z.data.toList.take y.size := by simp
  have e2 : z.data.toList = (x.data.toList.take (a + z.size)).drop a := by rw [← ext_list, s4]
  have e3 : y.data.toList = (x.data.toList.take (a + y.size)).drop a := by rw [← ext_list, s2]
  rw [e1, e2, e3, List.take_drop, List.take_take]
  congr 1
  congr 1
  omega

theorem nm_pos {t : List ByteArray} (ht : ∀ y ∈ t, 1 ≤ y.size) {y : Int} (hy : inT t y = true) : 1 ≤ (nmB t y).length := by
  unfold inT at hy
  simp only [Bool.and_eq_true, decide_eq_true_eq] at hy
  unfold nmB
  rw [Array.length_toList]
  exact ht _ (List.mem_of_getElem? (getD_mem (by omega)))

/-- The tokens of the text of a word. -/
theorem text_tok {t : List ByteArray} {w : List Int} (ht : ∀ y ∈ t, 1 ≤ y.size) (hw : ∀ k, k < w.length → inT t (w.getD k 0) = true) (hb : begB t = false) : ∀ d k f, k + d = w.length →
    (catL t w).length ≤ (catL t (w.take k)).length + f → tokF t ⟨(catL t w).toArray⟩ f (catL t (w.take k)).length (w.take k) = fin w
  | 0, k, f, hk, _ => by
    have : w.take k = w := List.take_of_length_le (by omega)
    rw [this]
    exact tokF_end (Nat.le_refl _)
  | d + 1, k, f, hk, hf => by
    have hkl : k < w.length := by omega
    have hin := hw k hkl
    have hgd : w[k]? = some (w.getD k 0) := by rw [List.getD_eq_getElem?_getD, List.getElem?_eq_getElem hkl]; rfl
    have hts : w.take (k + 1) = w.take k ++ [w.getD k 0] := by rw [List.take_add_one, hgd]; rfl
    generalize hy : w.getD k 0 = y at *
    have hnp := nm_pos ht hin
    have hsplit : catL t w = (catL t (w.take k) ++ nmB t y) ++ catL t (w.drop (k + 1)) := by
      rw [← catL_snoc, ← hts]
      have h := catL_app t (w.take (k + 1)) (w.drop (k + 1))
      rw [List.take_append_drop] at h
      exact h
    have hlen := congrArg List.length hsplit
    rw [List.length_append, List.length_append] at hlen
    obtain ⟨f, rfl⟩ : ∃ f', f = f' + 1 := ⟨f - 1, by omega⟩
    have hin2 := hin
    unfold inT at hin2
    simp only [Bool.and_eq_true, decide_eq_true_eq] at hin2
    have hj : (y - 1).toNat < t.length := by omega
    have hsz : (t.getD (y - 1).toNat ⟨#[]⟩).size = (nmB t y).length := by unfold nmB; rw [Array.length_toList]; rfl
    have hxs : ByteArray.size ⟨(catL t w).toArray⟩ = (catL t w).length := by simp [ByteArray.size]
    have hst : standsB ⟨(catL t w).toArray⟩ (catL t (w.take k)).length (t.getD (y - 1).toNat ⟨#[]⟩) = true := by
      unfold standsB
      rw [hsz, hxs, decide_eq_true (by omega), Bool.true_and, decide_eq_true_eq]
      apply ba_ext
      rw [ext_list]
      show ((catL t w).toArray.toList.take _).drop _ = nmB t y
      rw [List.toList_toArray, hsplit]
      exact mid_drop _ _ _
    have hrl : rl t ⟨(catL t w).toArray⟩ (catL t (w.take k)).length t.length = ((y - 1).toNat + 1, (nmB t y).length) := by
      rcases rl_law t ⟨(catL t w).toArray⟩ (catL t (w.take k)).length t.length with ⟨_, h2⟩ | ⟨i, h1, h2, h3, h4, h5⟩
      · have := h2 _ hj hst; omega
      · have hle := h5 _ hj hst
        have hpre := two_stand hst h4 hle
        have hij : (y - 1).toNat = i := by
          refine Classical.byContradiction fun hne => ?_
          have : begB t = true := anyR_true hj (anyR_true h1 (by unfold beg2; rw [decide_eq_true hne, decide_eq_true hle, decide_eq_true hpre]; rfl))
          rw [hb] at this; cases this
        rw [h2, ← hij, hsz]
    rw [tokF, if_neg (by rw [hxs]; omega), hrl]
    simp only
    rw [if_neg (by omega)]
    have he : (((y - 1).toNat + 1 : Nat) : Int) = y := by omega
    rw [he, ← hts]
    have hl2 : (catL t (w.take (k + 1))).length = (catL t (w.take k)).length + (nmB t y).length := by rw [hts, catL_snoc, List.length_append]
    rw [← hl2]
    exact text_tok ht hw hb d (k + 1) f (by omega) (by rw [hl2]; omega)
end Go.Proofs.YtfdmpbihepkjnaaDoor.Pl

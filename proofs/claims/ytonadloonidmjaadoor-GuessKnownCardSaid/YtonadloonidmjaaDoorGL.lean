/- The plain law of a map of counts: its entries, in whatever order; sorted, they are what the law learns. Conditions: none. -/
import Derived.Test.YtonadloonidmjaaDoorGR
namespace Go.Proofs.YtonadloonidmjaaDoor
open Go
open Pl

/-- The counts of endings, in whatever order. -/
def Cn (evs : List Ky) (m : List En) : Prop := (m.Pairwise fun a b => kyE a ≠ kyE b) ∧ ∀ e : En, e ∈ m ↔ 0 < cnt evs (kyE e) ∧ e.2.2 = cnt evs (kyE e)
theorem cn_nil : Cn [] [] := ⟨List.Pairwise.nil, fun e => by simp [cnt]⟩
theorem kyE_mk (x : Ky) (c : Int) : kyE (x.1, x.2, c) = x := rfl
theorem en_eq {e : En} {x : Ky} {c : Int} (h1 : kyE e = x) (h2 : e.2.2 = c) : e = (x.1, x.2, c) := by
  obtain ⟨a, b, d⟩ := e
  subst h1; subst h2; rfl
theorem cnt_one_self (x : Ky) : cnt [x] x = 1 := by simp [cnt]
theorem cnt_one_ne {x k : Ky} (h : k ≠ x) : cnt [x] k = 0 := by
  unfold cnt
  simp [Ne.symm h]
theorem cn_new {evs : List Ky} {m : List En} {x : Ky} (h : Cn evs m) (hn : ∀ e ∈ m, kyE e ≠ x) : Cn (evs ++ [x]) (m ++ [(x.1, x.2, 1)]) := by
  have h0 : cnt evs x = 0 := by
    by_cases hc : 0 < cnt evs x
    · exact absurd rfl (hn (x.1, x.2, (cnt evs x : Int)) ((h.2 _).2 ⟨hc, rfl⟩))
    · omega
  refine ⟨?_, fun e => ?_⟩
  · rw [List.pairwise_append]
    refine ⟨h.1, by simp, fun a ha b hb => ?_⟩
    rw [List.mem_singleton] at hb
    subst hb
    exact hn a ha
  · rw [List.mem_append, List.mem_singleton, cnt_append]
    by_cases hk : kyE e = x
    · rw [hk, h0, cnt_one_self]
      constructor
      · rintro (h1 | h1)
        · exact absurd hk (hn e h1)
        · subst h1; exact ⟨by omega, rfl⟩
      · rintro ⟨_, h2⟩
        exact .inr (en_eq hk (by simpa using h2))
    · rw [cnt_one_ne hk, Nat.add_zero]
      constructor
      · rintro (h1 | h1)
        · exact (h.2 e).1 h1
        · subst h1; exact absurd rfl hk
      · exact fun h1 => .inl ((h.2 e).2 h1)
theorem cn_at {evs : List Ky} {m : List En} {e f : En} (h : Cn evs m) (he : e ∈ m) (hf : f ∈ m) (hk : kyE e = kyE f) : e = f := by
  have h1 := ((h.2 e).1 he).2
  have h2 := ((h.2 f).1 hf).2
  rw [hk, ← h2] at h1
  obtain ⟨a, b, c⟩ := e
  obtain ⟨a', b', c'⟩ := f
  unfold kyE at hk
  simp at hk h1
  rw [hk.1, hk.2, h1]
theorem cn_old {evs : List Ky} {m : List En} {x : Ky} {j : Nat} {c : Int} (h : Cn evs m) (hj : m[j]? = some (x.1, x.2, c)) : Cn (evs ++ [x]) (m.set j (x.1, x.2, c + 1)) := by
  have hjl := (List.getElem?_eq_some_iff.1 hj).1
  have hm := (h.2 _).1 (List.mem_of_getElem? hj)
  have hc : c = (cnt evs x : Int) := hm.2
  have hmap : (m.set j (x.1, x.2, c + 1)).map kyE = m.map kyE := by
    apply List.ext_getElem?
    intro i
    rw [List.getElem?_map, List.getElem?_map, List.getElem?_set]
    by_cases e : j = i
    · subst e; rw [if_pos rfl, if_pos hjl, hj]; rfl
    · rw [if_neg e]
  refine ⟨?_, fun e => ?_⟩
  · have h1 := h.1
    rw [← List.pairwise_map (f := kyE) (R := fun a b => a ≠ b)] at h1 ⊢
    rw [hmap]; exact h1
  · rw [cnt_append]
    by_cases hk : kyE e = x
    · rw [hk, cnt_one_self]
      constructor
      · intro he
        refine ⟨by omega, ?_⟩
        rcases List.mem_or_eq_of_mem_set he with h1 | h1
        · exfalso
          obtain ⟨i, hi⟩ := List.mem_iff_getElem?.1 he
          rw [List.getElem?_set] at hi
          split at hi
          · rename_i e2; subst e2
            injection hi with hi
            have h2 := ((h.2 e).1 h1).2
            rw [hk, ← hc, ← hi] at h2
            simp at h2
            omega
          · rename_i hne
            have hil := (List.getElem?_eq_some_iff.1 hi).1
            have hp := List.pairwise_iff_getElem.1 h.1
            rcases Nat.lt_or_gt_of_ne hne with hl | hl
            · have := hp j i hjl hil hl
              rw [(List.getElem?_eq_some_iff.1 hj).2, (List.getElem?_eq_some_iff.1 hi).2, hk] at this
              exact this rfl
            · have := hp i j hil hjl hl
              rw [(List.getElem?_eq_some_iff.1 hj).2, (List.getElem?_eq_some_iff.1 hi).2, hk] at this
              exact this rfl
        · subst h1; rw [hc]; push_cast; rfl
      · rintro ⟨_, h2⟩
        have : e = (x.1, x.2, c + 1) := en_eq hk (by rw [h2, hc]; push_cast; rfl)
        rw [this]
        exact List.mem_iff_getElem?.2 ⟨j, by rw [List.getElem?_set, if_pos rfl, if_pos hjl]⟩
    · rw [cnt_one_ne hk, Nat.add_zero, ← h.2 e]
      constructor
      · intro he
        rcases List.mem_or_eq_of_mem_set he with h1 | h1
        · exact h1
        · subst h1; exact absurd rfl hk
      · intro he
        obtain ⟨i, hi⟩ := List.mem_iff_getElem?.1 he
        refine List.mem_iff_getElem?.2 ⟨i, ?_⟩
        rw [List.getElem?_set, if_neg]
        · exact hi
        · rintro rfl
          rw [hj] at hi; injection hi with hi; subst hi
          exact hk rfl
theorem cn_learn {evs : List Ky} {m g : List En} (h : Cn evs m) (hp : g.Perm m) (hs : SK g) : g = learnE evs :=
  lrn_unique (evs := evs) (evs' := evs) ⟨hs, fun e => hp.mem_iff.trans (h.2 e)⟩ (lrn_learn evs) fun _ => rfl
theorem nd_of_pw {α : Type} {r : α → α → Prop} (hr : ∀ a, ¬ r a a) {l : List α} (h : l.Pairwise r) : l.Nodup := h.imp fun {a b} hab e => by subst e; exact hr a hab
theorem cn_len {evs : List Ky} {m : List En} (h : Cn evs m) : m.length = (learnE evs).length := by
  have n1 : m.Nodup := nd_of_pw (fun a h => h rfl) h.1
  have n2 : (learnE evs).Nodup := nd_of_pw (fun a h => rE_asym a a h h) (lrn_learn evs).1
  have e : ∀ x, x ∈ m ↔ x ∈ learnE evs := fun x => (h.2 x).trans ((lrn_learn evs).2 x).symm
  exact Nat.le_antisymm (n1.length_le_of_subset fun x hx => (e x).1 hx) (n2.length_le_of_subset fun x hx => (e x).2 hx)

/-- The endings of a word, one by one. -/
theorem evK_succ {most : Nat} {k : Kn} : evK most k = (List.range (min most k.1.length + 1)).map fun n => (k.1.drop (k.1.length - n), k.2) := rfl
def evPre (k : Kn) (n : Nat) : List Ky := (List.range n).map fun n => (k.1.drop (k.1.length - n), k.2)
theorem evPre_zero (k : Kn) : evPre k 0 = [] := rfl
theorem evPre_snoc (k : Kn) (n : Nat) : evPre k (n + 1) = evPre k n ++ [(k.1.drop (k.1.length - n), k.2)] := by
  unfold evPre; rw [List.range_succ, List.map_append]; rfl
theorem evPre_all {most : Nat} {k : Kn} {n : Nat} (h : n = min most k.1.length + 1) : evPre k n = evK most k := by subst h; rfl
theorem evs_snoc (l : List Kn) (most : Nat) (k : Kn) : evs (l ++ [k]) most = evs l most ++ evK most k := by unfold evs; simp
theorem evs_len (l : List Kn) {most : Nat} (h : most ≤ 40) : (evs l most).length ≤ 41 * l.length := by
  induction l with
  | nil => simp [evs]
  | cons k r ih =>
    have : evs (k :: r) most = evK most k ++ evs r most := rfl
    rw [this, List.length_append, List.length_cons]
    have : (evK most k).length ≤ 41 := by unfold evK; simp; omega
    omega
theorem cn_small {evs : List Ky} {m : List En} (h : Cn evs m) : m.length ≤ evs.length := by
  rw [cn_len h]
  have := learn_len evs []
  simpa [learnE] using this
theorem cn_cnt {evs : List Ky} {m : List En} (h : Cn evs m) {e : En} (he : e ∈ m) : 1 ≤ e.2.2 ∧ e.2.2 ≤ evs.length := by
  obtain ⟨h1, h2⟩ := (h.2 e).1 he
  have : cnt evs (kyE e) ≤ evs.length := List.countP_le_length
  omega

/-- An ending with its tags as 42 cells of ints and a string: its length, the symbols and noughts, the tags. -/
def pad (x : List Int) : List Int := x ++ List.replicate (40 - x.length) 0
theorem pad_len {x : List Int} (h : x.length ≤ 40) : (pad x).length = 40 := by unfold pad; simp; omega
theorem pad_take (x : List Int) : (pad x).take x.length = x := by unfold pad; simp
theorem pad_inj {x y : List Int} (h : x.length = y.length) (e : pad x = pad y) : x = y := by rw [← pad_take x, ← pad_take y, e, h]
end Go.Proofs.YtonadloonidmjaaDoor

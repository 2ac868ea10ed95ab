/- The plain law of guess, continued: the order of the known words does not matter; what was learned knows every word. Conditions: none. -/
import Derived.Test.YtonadloonidmjaaDoorGQ
namespace Go.Proofs.YtonadloonidmjaaDoor
open Go
open Pl

theorem knownB_iff {l : List Kn} : knownB l = true ↔ ∀ k ∈ l, knB k = true := by
  unfold knownB; rw [List.all_eq_true]
theorem knownB_perm {l m : List Kn} (h : l.Perm m) : knownB l = knownB m := by
  rw [Bool.eq_iff_iff, knownB_iff, knownB_iff]
  exact ⟨fun a k hk => a k (h.mem_iff.2 hk), fun a k hk => a k (h.mem_iff.1 hk)⟩
theorem learnE_perm {a b : List Ky} (h : a.Perm b) : learnE a = learnE b :=
  lrn_unique (lrn_learn a) (lrn_learn b) fun _ => h.countP_eq _
theorem learnP_perm {l m : List Kn} (h : l.Perm m) (most : Int) : learnP l most = learnP m most := by
  have e1 : argB l most = argB m most := by unfold argB; rw [h.length_eq, knownB_perm h]
  have e2 : learnE (evs l most.toNat) = learnE (evs m most.toNat) := learnE_perm (h.flatMap_right _)
  unfold learnP
  rw [e1, e2]

/-- Reversed and rotated. -/
def rotI (n c i : Nat) : Nat := (n - 1 - i + c) % n
def rotL (l : List Kn) (c : Nat) : List Kn := (List.range l.length).map fun i => l.getD (rotI l.length c i) ([], ⟨#[]⟩)
theorem rotI_lt {n c i : Nat} (h : i < n) : rotI n c i < n := Nat.mod_lt _ (by omega)
theorem mod_two {n a : Nat} (h : a < 2 * n) : a % n = if a < n then a else a - n := by
  by_cases h1 : a < n
  · rw [if_pos h1, Nat.mod_eq_of_lt h1]
  · rw [if_neg h1, Nat.mod_eq_sub_mod (by omega), Nat.mod_eq_of_lt (by omega)]
theorem rotI_eq {n c i : Nat} (h : i < n) : rotI n c i = if n - 1 - i + c % n < n then n - 1 - i + c % n else n - 1 - i + c % n - n := by
  have hd := Nat.mod_lt c (show 0 < n by omega)
  unfold rotI
  rw [Nat.add_mod, Nat.mod_eq_of_lt (show n - 1 - i < n by omega), mod_two (by omega)]
theorem rotI_two {n c i : Nat} (h : i < n) : rotI n c (rotI n c i) = i := by
  have hd := Nat.mod_lt c (show 0 < n by omega)
  have e := rotI_eq (c := c) h
  have l := rotI_lt (c := c) h
  rw [rotI_eq l]
  generalize rotI n c i = v at *
  generalize c % n = d at *
  split at e <;> split <;> omega
theorem range_rot (n c : Nat) : ((List.range n).map (rotI n c)).Perm (List.range n) := by
  refine (List.perm_ext_iff_of_nodup ?_ List.nodup_range).2 ?_
  · unfold List.Nodup
    rw [List.pairwise_map]
    refine List.Pairwise.imp_of_mem ?_ (List.nodup_range (n := n))
    intro a b ha hb hne e
    exact hne (by rw [← rotI_two (c := c) (List.mem_range.1 ha), e, rotI_two (List.mem_range.1 hb)])
  · intro a
    rw [List.mem_map, List.mem_range]
    constructor
    · rintro ⟨i, hi, rfl⟩; exact rotI_lt (List.mem_range.1 hi)
    · intro ha; exact ⟨rotI n c a, List.mem_range.2 (rotI_lt ha), rotI_two ha⟩
theorem getD_range {α : Type} (l : List α) (d : α) : (List.range l.length).map (fun i => l.getD i d) = l := by
  apply List.ext_getElem (by simp)
  intro i h1 h2
  rw [List.getElem_map, List.getElem_range]
  exact getD_of (List.getElem?_eq_getElem h2)
theorem rotL_perm (l : List Kn) (c : Nat) : l.Perm (rotL l c) := by
  have h := ((range_rot l.length c).map (fun i => l.getD i (([], ⟨#[]⟩) : Kn))).symm
  rw [getD_range, List.map_map] at h
  exact h

/-- The counts of the empty ending. -/
def vE (e : En) : Int := if e.1 = [] then e.2.2 else 0
def sumE : List En → Int
  | [] => 0
  | e :: r => vE e + sumE r
theorem sumE_snoc (r : List En) (e : En) : sumE (r ++ [e]) = sumE r + vE e := by
  induction r with
  | nil => simp [sumE]
  | cons a r ih => rw [List.cons_append, sumE, sumE, ih]; omega
def isE (x : Ky) : Int := if x.1 = [] then 1 else 0
theorem sumE_ins (x : Ky) : ∀ g : List En, sumE (insE x g) = sumE g + isE x
  | [] => by simp [insE, sumE, vE, isE]
  | y :: r => by
    have ih := sumE_ins x r
    rw [insE]
    split
    · rw [sumE, sumE, ih]; omega
    · split
      · rename_i h2
        have h : kyE y = x := (totK.zero _ _).1 h2
        have h1 : x.1 = y.1 := by rw [← h]; rfl
        rw [sumE, sumE]
        unfold vE isE
        rw [h1]
        split <;> simp_all <;> omega
      · rw [sumE]
        have : vE (x.1, x.2, 1) = isE x := rfl
        rw [this]; omega
def cntE : List Ky → Int
  | [] => 0
  | x :: r => isE x + cntE r
theorem cntE_append (a b : List Ky) : cntE (a ++ b) = cntE a + cntE b := by
  induction a with
  | nil => simp [cntE]
  | cons x r ih => rw [List.cons_append, cntE, cntE, ih]; omega
theorem sumE_foldl : ∀ (e : List Ky) (g : List En), sumE (e.foldl (fun g x => insE x g) g) = sumE g + cntE e
  | [], g => by simp [cntE]
  | x :: r, g => by rw [List.foldl_cons, sumE_foldl r, sumE_ins, cntE]; omega
theorem cntE_zero : ∀ {a : List Ky}, (∀ x ∈ a, x.1 ≠ []) → cntE a = 0
  | [], _ => rfl
  | x :: r, h => by
    rw [cntE, cntE_zero fun y hy => h y (by simp [hy])]
    unfold isE; rw [if_neg (h x (by simp))]; rfl
theorem cntE_evK (most : Nat) (k : Kn) : cntE (evK most k) = 1 := by
  unfold evK
  rw [List.range_succ_eq_map, List.map_cons, cntE, cntE_zero]
  · unfold isE; simp
  · intro x hx
    rw [List.map_map] at hx
    obtain ⟨n, hn, rfl⟩ := List.mem_map.1 hx
    have := List.mem_range.1 hn
    intro e
    have e2 := congrArg List.length e
    simp at e2
    omega
theorem cntE_evs (most : Nat) : ∀ l : List Kn, cntE (evs l most) = l.length
  | [] => rfl
  | k :: r => by
    have ih := cntE_evs most r
    unfold evs at *
    rw [List.flatMap_cons, cntE_append, cntE_evK, ih, List.length_cons]; omega
theorem sumE_learn (l : List Kn) (most : Nat) : sumE (learnE (evs l most)) = l.length := by
  unfold learnE
  rw [sumE_foldl, cntE_evs]; simp [sumE]

/-- The endings of one word. -/
theorem mem_evK {most : Nat} {k : Kn} {x : Ky} : x ∈ evK most k ↔ x.2 = k.2 ∧ x.1.length ≤ most ∧ x.1.length ≤ k.1.length ∧ x.1 = k.1.drop (k.1.length - x.1.length) := by
  unfold evK
  rw [List.mem_map]
  constructor
  · rintro ⟨n, hn, rfl⟩
    have := List.mem_range.1 hn
    have hl : (k.1.drop (k.1.length - n)).length = n := by rw [List.length_drop]; omega
    refine ⟨rfl, ?_, ?_, ?_⟩
    · show (k.1.drop (k.1.length - n)).length ≤ most; omega
    · show (k.1.drop (k.1.length - n)).length ≤ k.1.length; omega
    · show k.1.drop (k.1.length - n) = k.1.drop (k.1.length - (k.1.drop (k.1.length - n)).length)
      rw [hl]
  · rintro ⟨h1, h2, h3, h4⟩
    exact ⟨x.1.length, List.mem_range.2 (by omega), Prod.ext h4.symm h1.symm⟩
theorem evK_nodup (most : Nat) (k : Kn) : (evK most k).Nodup := by
  unfold evK List.Nodup
  rw [List.pairwise_map]
  refine List.Pairwise.imp_of_mem ?_ (List.nodup_range (n := min most k.1.length + 1))
  intro a b ha hb hne e
  have h1 := List.mem_range.1 ha
  have h2 := List.mem_range.1 hb
  have := congrArg (fun x : Ky => x.1.length) e
  simp at this
  omega
theorem cnt_nodup {k : Ky} : ∀ {a : List Ky}, a.Nodup → cnt a k ≤ 1
  | [], _ => by simp [cnt]
  | x :: r, h => by
    obtain ⟨h1, h2⟩ := List.pairwise_cons.1 h
    have ih := cnt_nodup (k := k) h2
    unfold cnt at *
    rw [List.countP_cons]
    by_cases hx : x = k
    · have : List.countP (fun x => decide (x = k)) r = 0 := by
        rw [List.countP_eq_zero]
        intro y hy
        have := h1 y hy
        simp
        intro e
        exact this (by rw [hx, e])
      rw [this]; simp [hx]
    · simp [hx]; exact ih
theorem cnt_evs_le {most : Nat} {x : Ky} : ∀ l : List Kn, cnt (evs l most) x ≤ l.length
  | [] => by simp [evs, cnt]
  | k :: r => by
    have ih := cnt_evs_le (most := most) (x := x) r
    unfold evs at *
    rw [List.flatMap_cons, cnt_append, List.length_cons]
    have := cnt_nodup (k := x) (evK_nodup most k)
    omega
theorem cnt_tail {most : Nat} {a : Int} {y : List Int} {t : ByteArray} : ∀ l : List Kn, cnt (evs l most) (a :: y, t) ≤ cnt (evs l most) (y, t)
  | [] => by simp [evs, cnt]
  | k :: r => by
    have ih := cnt_tail (most := most) (a := a) (y := y) (t := t) r
    unfold evs at *
    rw [List.flatMap_cons, cnt_append, cnt_append]
    have h1 := cnt_nodup (k := (a :: y, t)) (evK_nodup most k)
    by_cases h : 0 < cnt (evK most k) (a :: y, t)
    · have hm := mem_evK.1 (cnt_pos.1 h)
      have : 0 < cnt (evK most k) (y, t) := by
        refine cnt_pos.2 (mem_evK.2 ?_)
        obtain ⟨e1, e2, e3, e4⟩ := hm
        simp only [List.length_cons] at e2 e3 e4
        refine ⟨e1, by show y.length ≤ most; omega, by show y.length ≤ k.1.length; omega, ?_⟩
        show y = k.1.drop (k.1.length - y.length)
        have := congrArg List.tail e4
        rw [List.tail_cons, List.tail_drop] at this
        rw [this]
        congr 1
        rw [← this]; omega
      omega
    · omega
theorem mem_evs {l : List Kn} {most : Nat} {x : Ky} : x ∈ evs l most ↔ ∃ k ∈ l, x ∈ evK most k := by
  unfold evs; rw [List.mem_flatMap]

/-- What the elements of a learned list are. -/
theorem learn_mem {l : List Kn} {most : Nat} {e : En} (h : e ∈ learnE (evs l most)) : (∃ k ∈ l, kyE e ∈ evK most k) ∧ e.2.2 = cnt (evs l most) (kyE e) ∧ 0 < e.2.2 := by
  obtain ⟨h1, h2⟩ := ((lrn_learn (evs l most)).2 e).1 h
  exact ⟨mem_evs.1 (cnt_pos.1 h1), h2, by omega⟩
theorem mem_learn {l : List Kn} {most : Nat} {k : Kn} {x : Ky} (hk : k ∈ l) (hx : x ∈ evK most k) : ∃ c, (x.1, x.2, c) ∈ learnE (evs l most) :=
  ⟨cnt (evs l most) x, ((lrn_learn (evs l most)).2 _).2 ⟨cnt_pos.2 (mem_evs.2 ⟨k, hk, hx⟩), rfl⟩⟩
/-- No ending is more frequent than one of its own endings. -/
theorem learn_mono {l : List Kn} {most : Nat} {e f : En} {a : Int} (he : e ∈ learnE (evs l most)) (hf : f ∈ learnE (evs l most)) (h1 : e.1 = a :: f.1) (h2 : f.2.1 = e.2.1) : e.2.2 ≤ f.2.2 := by
  have e1 := (learn_mem he).2.1
  have e2 := (learn_mem hf).2.1
  have := cnt_tail (most := most) (a := a) (y := f.1) (t := e.2.1) l
  have k1 : kyE e = (a :: f.1, e.2.1) := by rw [← h1]; rfl
  have k2 : kyE f = (f.1, e.2.1) := by rw [← h2]; rfl
  rw [k1] at e1; rw [k2] at e2
  omega

theorem wordB_drop {x : List Int} (n : Nat) (h : wordB x = true) : wordB (x.drop n) = true := by
  unfold wordB at *
  rw [Bool.and_eq_true, List.all_eq_true] at *
  refine ⟨by simp at h ⊢; omega, fun s hs => h.2 s (List.mem_of_mem_drop hs)⟩
theorem argB_of {l : List Kn} {most : Int} (h : argB l most = true) : l.length ≤ 3000 ∧ 0 ≤ most ∧ most ≤ 40 ∧ ∀ k ∈ l, knB k = true := by
  unfold argB at h
  rw [Bool.and_eq_true, Bool.and_eq_true, Bool.and_eq_true, knownB_iff] at h
  simpa using h
theorem validG_learn {l : List Kn} {most : Int} (h : argB l most = true) (hl : (learnE (evs l most.toNat)).length ≤ 30000) : validG (learnE (evs l most.toNat)) = true := by
  obtain ⟨a1, a2, a3, a4⟩ := argB_of h
  unfold validG
  rw [decide_eq_true hl, Bool.true_and, allR_iff]
  intro i hi
  have hs := (lrn_learn (evs l most.toNat)).1
  have hg := List.getElem?_eq_getElem hi
  rw [getD_of hg, Bool.and_eq_true]
  constructor
  · have hm := List.getElem_mem hi
    generalize (learnE (evs l most.toNat))[i] = e at hm
    obtain ⟨⟨k, hk, hx⟩, hc, hp⟩ := learn_mem hm
    have hkn := a4 k hk
    unfold knB at hkn
    rw [Bool.and_eq_true] at hkn
    obtain ⟨m1, _, _, m4⟩ := mem_evK.1 hx
    have c1 := cnt_evs_le (most := most.toNat) (x := kyE e) l
    unfold okE
    have w1 : wordB e.1 = true := by
      have : e.1 = (kyE e).1 := rfl
      rw [this, m4]; exact wordB_drop _ hkn.1
    have w2 : tagsB e.2.1 = true := by
      have : e.2.1 = (kyE e).2 := rfl
      rw [this, m1]; exact hkn.2
    rw [w1, w2, decide_eq_true (show 1 ≤ e.2.2 by omega), decide_eq_true (show e.2.2 ≤ 30000 by omega)]; rfl
  · rw [Bool.or_eq_true]
    by_cases h0 : i = 0
    · left; simpa using h0
    · right
      rw [getD_of (List.getElem?_eq_getElem (show i - 1 < (learnE (evs l most.toNat)).length by omega)), decide_eq_true_eq]
      exact List.pairwise_iff_getElem.1 hs (i - 1) i (by omega) hi (by omega)

theorem endF_nil {g : List En} {x : List Int} : ∀ {n : Nat}, endF g x n = [] → ∀ j, j ≤ n → atW g (x.drop (x.length - j)) = []
  | 0, h, j, hj => by
    have : j = 0 := by omega
    subst this; exact h
  | n + 1, h, j, hj => by
    rw [endF] at h
    by_cases h0 : atW g (x.drop (x.length - (n + 1))) = []
    · rw [if_pos h0] at h
      by_cases e : j = n + 1
      · subst e; exact h0
      · exact endF_nil h j (by omega)
    · rw [if_neg h0] at h; exact absurd h h0
theorem endF_top {g : List En} {x : List Int} (h : atW g x ≠ []) : endF g x x.length = atW g x := by
  have e : x.drop (x.length - x.length) = x := by simp
  cases hn : x.length with
  | zero =>
    rw [endF, hn]
    have : x = [] := List.length_eq_zero_iff.1 hn
    subst this; rfl
  | succ n =>
    rw [hn] at e
    rw [endF, hn, e, if_neg h]
theorem atW_mem {g : List En} {x : List Int} {e : En} : e ∈ atW g x ↔ e ∈ g ∧ e.1 = x := by
  unfold atW; rw [List.mem_filter]; simp
/-- The list that endF gives is one of those. -/
theorem endF_some {g : List En} {x : List Int} : ∀ n : Nat, ∃ y, endF g x n = atW g y
  | 0 => ⟨_, rfl⟩
  | n + 1 => by
    rw [endF]
    split
    · exact endF_some n
    · exact ⟨_, rfl⟩
/-- What was learned knows every word, and short words exactly. -/
theorem guess_learn {l : List Kn} {most : Int} {k : Kn} (h : argB l most = true) (hl : (learnE (evs l most.toNat)).length ≤ 30000) (hk : k ∈ l) :
    ∃ a, guessP (learnE (evs l most.toNat)) k.1 = (a, 0) ∧ a ≠ [] ∧ ((k.1.length : Int) ≤ most → ∀ t ∈ wholeP l k.1, ∃ e ∈ a, e.2.1 = t) := by
  obtain ⟨a1, a2, a3, a4⟩ := argB_of h
  have hv := validG_learn h hl
  have hw := a4 k hk
  unfold knB at hw
  rw [Bool.and_eq_true] at hw
  have hs := validG_sorted hv
  have hne : endF (learnE (evs l most.toNat)) k.1 k.1.length ≠ [] := fun e => by
    have h0 := endF_nil e 0 (by omega)
    obtain ⟨c, hc⟩ := mem_learn (most := most.toNat) (x := ([], k.2)) hk (mem_evK.2 ⟨rfl, by simp, by simp, by simp⟩)
    have : (([], k.2, c) : En) ∈ atW (learnE (evs l most.toNat)) (k.1.drop (k.1.length - 0)) := atW_mem.2 ⟨hc, by simp⟩
    rw [h0] at this
    simp at this
  obtain ⟨y, hy⟩ := endF_some (g := learnE (evs l most.toNat)) (x := k.1) k.1.length
  have hd : Dt (endF (learnE (evs l most.toNat)) k.1 k.1.length) := by rw [hy]; exact atW_Dt hs y
  refine ⟨sortL (endF (learnE (evs l most.toNat)) k.1 k.1.length), ?_, ?_, ?_⟩
  · unfold guessP
    rw [hv, hw.1, Bool.and_self, if_pos rfl, if_neg hne]
  · obtain ⟨e, he⟩ := List.exists_mem_of_ne_nil _ hne
    exact List.ne_nil_of_mem ((sortL_mem hd e).2 he)
  · intro hm t ht
    have hkl : knownB l = true := knownB_iff.2 a4
    unfold wholeP at ht
    rw [hkl, if_pos rfl, wholeE_mem] at ht
    unfold tagsOf at ht
    obtain ⟨k', hk', rfl⟩ := List.mem_map.1 ht
    obtain ⟨hk1, hk2⟩ := List.mem_filter.1 hk'
    have hk2 : k'.1 = k.1 := by simpa using hk2
    obtain ⟨c, hc⟩ := mem_learn (most := most.toNat) (x := (k.1, k'.2)) hk1 (mem_evK.2 ⟨rfl, by show k.1.length ≤ _; omega, by rw [hk2]; exact Nat.le_refl _, by rw [hk2]; show k.1 = k.1.drop (k.1.length - k.1.length); simp⟩)
    have hin : (k.1, k'.2, c) ∈ atW (learnE (evs l most.toNat)) k.1 := atW_mem.2 ⟨hc, rfl⟩
    rw [endF_top (List.ne_nil_of_mem hin)] at hd ⊢
    exact ⟨_, (sortL_mem hd _).2 hin, rfl⟩
end Go.Proofs.YtonadloonidmjaaDoor

/- The contracts of slices.Clone at []int and of slices.Reverse at [][]int. -/
import Derived.Test.YtockfkmemoggiaaProg
import Derived.Test.YtockfkmemoggiaaApp
import Derived.Outline
import Derived.Lib.Hide
import Derived.RegionTactic
import Derived.BigRegion
namespace Go.Proofs.Ytockfkmemoggiaa
open Go.RowKit

theorem infoI : (Try.prog.info? 3).map (fun i => (i.zero, i.size, i.bytes)) = some (some (.int .i64 0), 1, 8) := by kernel_rfl

/-- A clone lies in new memory. -/
theorem clone_any {v : Value} {l : List Int} {w : World} (h : Rd tInt w v l) (hb : l.length ≤ 1000000) : Calls Try.prog 41 #[v] w (Fr tInt w l) := by
  obtain ⟨i0, hi, hz0, hz1, hz2⟩ := info_parts infoI
  obtain ⟨A, c, rfl, _, _⟩ := h.form
  cases A with
  | none =>
    have hl : l = [] := by
      obtain ⟨_, _, e, _, _, hr⟩ := h
      injection e with e; subst e
      rcases hr with h | ⟨_, _, e, _⟩
      · exact h
      · cases e
    have Hl := Lib.hid hl
    have hn : ∀ W : World, (binOp .eql 22 (.slice none l.length c) (.slice none 0 0)).run Try.prog W = .ok (.bool true) W := fun W => eql_slice_nil Try.underlying22 _ _ _ W
    clear hl h
    go_enter Try.func41, Try.ntmps41
    go_wp2_with fail
    go_ret
    exact ⟨_, rfl, Below.refl _ _, by rw [Hl.out]; exact Sl.nil⟩
  | some ad =>
    have hA : Acc tInt 3 (w.alloc (.cells #[] 3)) w.heap.size (.slice (some ⟨w.heap.size, 0, none⟩) 0 0) [] := Acc.made (Nat.le_refl _) (at_new rfl) (Nat.zero_le _) rfl
    have hy := h.alloc (.cells #[] 3)
    have hn : ∀ W : World, (binOp .eql 22 (.slice (some ad) l.length c) (.slice none 0 0)).run Try.prog W = .ok (.bool false) W := fun W => eql_slice_nil Try.underlying22 _ _ _ W
    clear h
    go_enter Try.func41, Try.ntmps41
    go_wp2_with (at_builtin; refine wpList_app_sl rfl _ _ rfl Try.underlying22 hi hz0 hz1 hz2 rfl rfl hA rfl hy int_free (by simp [maxLen]; omega) (by simp; omega) (by simp) ?_; intro v1 w1 hA1 hg1 hat1)
    go_ret
    refine ⟨v1, rfl, ?_, by simpa using hA1.hi⟩
    exact Acc.bw ((Below.refl _ _).alloc (Nat.le_refl _) _) hg1 (fun g e => by injection e with e; exact Nat.le_of_eq e) (Nat.le_refl _)

/-- A list with its first k and its last k elements exchanged. -/
def rev {α : Type} [Inhabited α] (cs : List α) (k : Nat) : List α := (List.range cs.length).map fun m => cs.getD (if m < k ∨ cs.length ≤ m + k then cs.length - 1 - m else m) default
theorem rev_at {α : Type} [Inhabited α] (cs : List α) (k m : Nat) (hm : m < cs.length) : (rev cs k)[m]? = cs[if m < k ∨ cs.length ≤ m + k then cs.length - 1 - m else m]? := by
  have h2 : (if m < k ∨ cs.length ≤ m + k then cs.length - 1 - m else m) < cs.length := by split <;> omega
  unfold rev
  rw [List.getElem?_map, List.getElem?_range hm, List.getElem?_eq_getElem h2]
  simp only [Option.map_some, List.getD_eq_getElem?_getD, List.getElem?_eq_getElem h2, Option.getD_some]
theorem rev_len {α : Type} [Inhabited α] (cs : List α) (k : Nat) : (rev cs k).length = cs.length := by simp [rev]
theorem rev_zero {α : Type} [Inhabited α] (cs : List α) : rev cs 0 = cs := by
  apply List.ext_getElem?
  intro m
  by_cases hm : m < cs.length
  · rw [rev_at cs 0 m hm, if_neg (by omega)]
  · rw [List.getElem?_eq_none (by rw [rev_len]; omega), List.getElem?_eq_none (by omega)]
theorem rev_all {α : Type} [Inhabited α] (cs : List α) (k : Nat) (h : cs.length ≤ 2 * k + 1) : rev cs k = cs.reverse := by
  apply List.ext_getElem?
  intro m
  by_cases hm : m < cs.length
  · rw [rev_at cs k m hm, List.getElem?_reverse hm]
    congr 1
    split <;> omega
  · rw [List.getElem?_eq_none (by rw [rev_len]; omega), List.getElem?_eq_none (by simp; omega)]
theorem rev_step {α : Type} [Inhabited α] (cs : List α) (k : Nat) (h : 2 * k + 1 < cs.length) (x y : α) (hx : cs[k]? = some x) (hy : cs[cs.length - 1 - k]? = some y) :
    ((rev cs k).set k y).set (cs.length - 1 - k) x = rev cs (k + 1) := by
  apply List.ext_getElem?
  intro m
  by_cases hm : m < cs.length
  · rw [rev_at cs (k + 1) m hm, List.getElem?_set, List.getElem?_set, List.length_set, rev_len]
    by_cases e1 : cs.length - 1 - k = m
    · rw [if_pos e1, if_pos (by omega), if_pos (by omega)]
      rw [← hx]; congr 1; omega
    · rw [if_neg e1]
      by_cases e2 : k = m
      · rw [if_pos e2, if_pos (by omega), if_pos (by omega), ← hy]; congr 1; omega
      · rw [if_neg e2, rev_at cs k m hm]
        congr 1
        by_cases h3 : m < k ∨ cs.length ≤ m + k
        · rw [if_pos h3, if_pos (by omega)]
        · rw [if_neg h3, if_neg (by omega)]
  · rw [List.getElem?_eq_none (by simp [rev_len]; omega), List.getElem?_eq_none (by rw [rev_len]; omega)]

/-- In place: a row of the call's own, of one-cell elements. -/
theorem reverse_any {g n c : Nat} {cs : List Value} {w : World} {base : Nat} (h : w.ownsRow base 22 1 (.slice (some ⟨g, 0, none⟩) n c) n cs) (h1 : ∀ u ∈ cs, ∃ A m k, u = .slice A m k) (hn : n ≤ 1000000) :
    Calls Try.prog 42 #[.slice (some ⟨g, 0, none⟩) n c] w fun e w' => e = .returned (.tuple #[]) ∧ w.grownBy w' (some g) ∧ w'.ownsRow base 22 1 (.slice (some ⟨g, 0, none⟩) n c) n cs.reverse := by
  have hlen : cs.length = n := by have := h.1; omega
  go_enter Try.func42, Try.ntmps42
  go_wp2_with fail
  go_loopw [2, 3] (fun i j wr => ∃ k : Nat, 2 * k ≤ n + 1 ∧ i = .int .i64 k ∧ j = .int .i64 ((n : Int) - 1 - k) ∧ w.grownBy wr (some g) ∧ wr.ownsRow base 22 1 (.slice (some ⟨g, 0, none⟩) n c) n (rev cs k)) (fun i _ _ => n - (intOf i).toNat)
  case atStart => exact ⟨0, by omega, rfl, by simp, ⟨rfl, rfl, rfl, Nat.le_refl _, fun _ _ _ => rfl⟩, by rw [rev_zero]; exact h⟩
  case round =>
    obtain ⟨k, hk, rfl, rfl, hg, ho⟩ := hrel
    by_cases hlt : 2 * k + 1 < n
    · obtain ⟨x, hx⟩ : ∃ x, cs[k]? = some x := ⟨_, List.getElem?_eq_getElem (by omega)⟩
      obtain ⟨y, hy⟩ : ∃ y, cs[cs.length - 1 - k]? = some y := ⟨_, List.getElem?_eq_getElem (by omega)⟩
      have c0 : wr.cell? ⟨g, k, none⟩ = some x := by rw [ho.cellAt k (by omega), rev_at cs k k (by omega), if_neg (by omega), hx]
      have c1 : wr.cell? ⟨g, n - 1 - k, none⟩ = some y := by rw [ho.cellAt (n - 1 - k) (by omega), rev_at cs k _ (by omega), if_neg (by omega), ← hlen, hy]
      have hstep := Lib.hid (rev_step cs k (by omega) x y hx hy)
      obtain ⟨A1, m1, k1, rfl⟩ := h1 x (List.mem_of_getElem? hx)
      obtain ⟨A2, m2, k2, rfl⟩ := h1 y (List.mem_of_getElem? hy)
      have f0 := ho.frozenAt k
      have f1 := ho.frozenAt (n - 1 - k)
      have e1 : ((n : Int) - 1 - k).toNat = n - 1 - k := by omega
      have e2 : (0 : Int) ≤ (n : Int) - 1 - k := by omega
      have e3 : (n : Int) - 1 - k < n := by omega
      have hlen' := Lib.hid hlen
      clear h h1 hx hy hlen
      go_wp2_with fail
      go_region
      go_wp2_with fail
      have s1 := ho.stored k (.slice A2 m2 k2)
      have s2 := s1.1.stored (n - 1 - k) (.slice A1 m1 k1)
      have es := hstep.out
      rw [hlen'.out] at es
      rw [es] at s2
      exact ⟨⟨k + 1, by omega, by go_num, by go_num, grown_drew ((hg.trans s1.2).trans s2.2), s2.1⟩, by simp [intOf]; omega⟩
    · go_wp2_with fail
      go_end0
      refine ⟨rfl, hg, ?_⟩
      rwa [rev_all cs k (by omega)] at ho

theorem flatten_single {css : List (List Value)} (h : ∀ cs ∈ css, cs.length = 1) : ∀ j : Nat, css.flatten[j]? = (css[j]?).bind (fun (cs : List Value) => cs[0]?) := by
  intro j
  by_cases hj : j < css.length
  · have hl := h _ (List.getElem_mem hj)
    have := flatten_at h j 0 css[j] (css[j][0]'(by omega)) (List.getElem?_eq_getElem hj) (List.getElem?_eq_getElem (by omega))
    rw [Nat.mul_one, Nat.add_zero] at this
    rw [this, List.getElem?_eq_getElem hj]
    simp only [Option.bind_some]
    rw [List.getElem?_eq_getElem (by omega)]
  · rw [List.getElem?_eq_none (by rw [flatten_len h]; omega), List.getElem?_eq_none (by omega)]; rfl
theorem flatten_rev {css : List (List Value)} (h : ∀ cs ∈ css, cs.length = 1) : css.flatten.reverse = css.reverse.flatten := by
  have h' : ∀ cs ∈ css.reverse, cs.length = 1 := fun cs hc => h cs (List.mem_reverse.1 hc)
  have hfl := flatten_len h
  apply List.ext_getElem?
  intro j
  by_cases hj : j < css.length
  · rw [List.getElem?_reverse (by omega), flatten_single h, flatten_single h', List.getElem?_reverse hj, hfl]
    congr 3
    omega
  · rw [List.getElem?_eq_none (by simp only [List.length_reverse]; omega), List.getElem?_eq_none (by rw [flatten_len h']; simp; omega)]

theorem reverse_acc {v : Value} {l : List (List Int)} {w : World} {base : Nat} (h : Acc (tSlice tInt) 22 w base v l) (hn : l.length ≤ 1000000) :
    Calls Try.prog 42 #[v] w fun e w' => e = .returned (.tuple #[]) ∧ w.grownBy w' v.ownBlock ∧ Acc (tSlice tInt) 22 w' base v l.reverse := by
  obtain ⟨css, h1, h2, h3⟩ := h
  have hone : ∀ cs ∈ css, cs.length = 1 := by
    intro cs hcs
    obtain ⟨j, hj⟩ := List.mem_iff_getElem?.1 hcs
    have hjl : j < l.length := by have := (List.getElem?_eq_some_iff.1 hj).1; omega
    exact (tSlice tInt).len (h3 j _ cs (List.getElem?_eq_getElem hjl) hj)
  rcases h1.2 with ⟨rfl, h0⟩ | ⟨g, cap, cur, rfl, hbg, hg, hnc, hcm, hcs, htk⟩
  · have : l = [] := List.eq_nil_of_length_eq_zero h0
    subst this
    go_enter Try.func42, Try.ntmps42
    go_wp2_with fail
    go_loop [2, 3] (fun i j => i = .int .i64 0 ∧ j = .int .i64 (-1)) (fun _ _ => 0)
    case atStart => exact ⟨rfl, rfl⟩
    case round =>
      obtain ⟨rfl, rfl⟩ := hrel
      go_wp2_with fail
      go_end0
      exact ⟨rfl, ⟨rfl, rfl, rfl, Nat.le_refl _, fun _ _ _ => rfl⟩, Acc.nil _ _⟩
  · have hshape : ∀ u ∈ css.flatten, ∃ A m k, u = .slice A m k := by
      intro u hu
      obtain ⟨cs, hcs', huc⟩ := List.mem_flatten.1 hu
      obtain ⟨j, hj⟩ := List.mem_iff_getElem?.1 hcs'
      have hjl : j < l.length := by have := (List.getElem?_eq_some_iff.1 hj).1; omega
      obtain ⟨v, rfl, A, c, rfl, _⟩ := h3 j _ cs (List.getElem?_eq_getElem hjl) hj
      simp at huc
      exact ⟨_, _, _, huc⟩
    refine (reverse_any h1 hshape hn).mono ?_
    rintro e w' ⟨he, hgr, ho⟩
    refine ⟨he, hgr, css.reverse, ?_, by simp [h2], ?_⟩
    · rw [← flatten_rev hone, List.length_reverse]; exact ho
    · intro j x cs hj hc
      have hjl : j < l.length := by have := (List.getElem?_eq_some_iff.1 hj).1; simpa using this
      rw [List.getElem?_reverse hjl] at hj
      rw [List.getElem?_reverse (by omega), h2] at hc
      exact (tSlice tInt).keep ((tSlice tInt).lt (h3 _ x cs hj hc)) fun b hb => ⟨hb.1, hgr.block b hb.2 hb.1.2⟩
end Go.Proofs.Ytockfkmemoggiaa

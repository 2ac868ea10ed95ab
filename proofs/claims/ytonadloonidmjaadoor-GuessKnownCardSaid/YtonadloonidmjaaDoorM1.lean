/- Several texts in one: Put, GX, GY, HC, HD. Conditions: as each theorem says. -/
import Derived.Test.YtonadloonidmjaaDoorTail
import Derived.Test.YtonadloonidmjaaDoorGR
import Derived.Test.YtonadloonidmjaaDoorGM
import Derived.Test.YtonadloonidmjaaDoorGU
import Derived.Deep.MidRow
namespace Go.Proofs.YtonadloonidmjaaDoor
open Go.RowKit

theorem flatten_set {css : List (List Value)} {s : Nat} (hs : ∀ cs ∈ css, cs.length = s) : ∀ (j i : Nat) (cs : List Value) (v : Value), css[j]? = some cs → i < s → (css.set j (cs.set i v)).flatten = css.flatten.set (j * s + i) v := by
  induction css with
  | nil => intro j i cs v h; simp at h
  | cons c r ih =>
    intro j i cs v hj hi
    have hc := hs c (by simp)
    cases j with
    | zero =>
      simp at hj; subst hj
      rw [List.set_cons_zero, List.flatten_cons, List.flatten_cons, Nat.zero_mul, Nat.zero_add, List.set_append_left _ _ (by omega)]
    | succ j =>
      simp at hj
      have e : (j + 1) * s + i - c.length = j * s + i := by rw [hc, Nat.succ_mul]; omega
      rw [List.set_cons_succ, List.flatten_cons, List.flatten_cons, ih (fun cs h => hs cs (by simp [h])) j i cs v hj hi, List.set_append_right _ _ (by rw [hc, Nat.succ_mul]; omega), e]

section
variable {α : Type} {T : Ty α} {e : TypeId} {w : World} {base g n cap j i : Nat} {xs : List α} {x y : α} {u : Value}
theorem Acc.block (h : Acc T e w base (.slice (some ⟨g, 0, none⟩) n cap) xs) : ∃ cur, w.heap[g]? = some (.cells cur e (0, 0)) ∧ base ≤ g ∧ xs.length = n := by
  obtain ⟨A, c, e1, _, _⟩ := h.form
  injection e1 with _ e1 _
  obtain ⟨css, h1, _⟩ := h
  rcases h1.2 with ⟨h0, _⟩ | ⟨g', cap', cur, h0, hbg, hg, _⟩
  · cases h0
  · injection h0 with h0 _ _
    injection h0 with h0
    injection h0 with h0
    subst h0
    exact ⟨cur, hg, hbg, e1.symm⟩
theorem Acc.frozen (h : Acc T e w base (.slice (some ⟨g, 0, none⟩) n cap) xs) (k : Nat) : w.frozen? ⟨g, k, none⟩ = false := by
  obtain ⟨cur, hg, _⟩ := h.block
  exact frozen_of_cells hg
theorem Acc.put1 (h : Acc T e w base (.slice (some ⟨g, 0, none⟩) n cap) xs) (hx : xs[j]? = some x) (hi : i < T.size)
    (hy : ∀ cs, T.rep w (fun b => base ≤ b ∧ some b ≠ some g) cs x → T.rep w (fun b => base ≤ b ∧ some b ≠ some g) (cs.set i u) y) :
    Acc T e (w.setCell ⟨g, j * T.size + i, none⟩ u) base (.slice (some ⟨g, 0, none⟩) n cap) (xs.set j y) ∧ w.grownBy (w.setCell ⟨g, j * T.size + i, none⟩ u) (some g) := by
  obtain ⟨A, c, e1, _, _⟩ := h.form
  injection e1 with _ e1 _
  obtain ⟨css, h1, h2, h3⟩ := h
  have hg' : w.grownBy (w.setCell ⟨g, j * T.size + i, none⟩ u) (some g) :=
    ⟨rfl, rfl, rfl, by simp [World.setCell], fun k _ hk => heap_setCell_other w ⟨g, j * T.size + i, none⟩ k u (fun e => hk (by rw [e]))⟩
  refine ⟨?_, hg'⟩
  have hlen : ∀ cs ∈ css, cs.length = T.size := by
    intro cs hcs
    obtain ⟨j, hj⟩ := List.mem_iff_getElem?.1 hcs
    have hjl : j < xs.length := by have := (List.getElem?_eq_some_iff.1 hj).1; omega
    exact T.len (h3 j _ cs (List.getElem?_eq_getElem hjl) hj)
  have hjl := (List.getElem?_eq_some_iff.1 hx).1
  have hcs := List.getElem?_eq_getElem (l := css) (i := j) (by omega)
  have hr := hy _ (h3 j x _ hx hcs)
  rcases h1.2 with ⟨h0, _⟩ | ⟨g', cap', cur, h0, hbg, hg, hn, hc, hsz, htk⟩
  · cases h0
  · injection h0 with h0 h0n h0c
    injection h0 with h0
    injection h0 with h0
    subst h0; subst h0c
    have hfl := flatten_set hlen j i _ u hcs hi
    have keep : ∀ (cs : List Value) (z : α), T.rep w (fun b => base ≤ b ∧ some b ≠ some g) cs z → T.rep (w.setCell ⟨g, j * T.size + i, none⟩ u) (fun b => base ≤ b ∧ some b ≠ some g) cs z := fun cs z hz =>
      T.keep hz fun b hb => ⟨hb, heap_setCell_other w ⟨g, j * T.size + i, none⟩ b u (fun e => hb.2 (by rw [e]))⟩
    refine ⟨css.set j (css[j].set i u), ⟨?_, .inr ⟨g, cap, cur.setIfInBounds (j * T.size + i) u, by rw [List.length_set, e1], hbg, heap_setCell_same w g _ cur e u hg, by rw [List.length_set]; omega, hc, by simp [hsz], ?_⟩⟩, by simp [h2], ?_⟩
    · rw [hfl, List.length_set, h1.1, List.length_set]
    · rw [hfl, Array.toList_setIfInBounds, List.take_set, List.length_set, htk]
    · intro k z cs hk hck
      rw [List.getElem?_set] at hk hck
      by_cases hjk : j = k
      · subst hjk
        rw [if_pos rfl, if_pos (by omega)] at hk hck
        injection hk with hk; injection hck with hck
        subst hk; subst hck
        exact keep _ _ hr
      · rw [if_neg hjk] at hk hck
        exact keep _ _ (h3 k z cs hk hck)
end
end Go.Proofs.YtonadloonidmjaaDoor
namespace Go.Proofs.YtonadloonidmjaaDoor
open Go
open Pl

theorem insE_hit {x : Ky} : ∀ (g : List En) (lo : Nat) (y : En), (∀ j z, j < lo → g[j]? = some z → ordK (kyE z) x < 0) → g[lo]? = some y → ordK (kyE y) x = 0 → insE x g = g.set lo (y.1, y.2.1, y.2.2 + 1)
  | [], lo, y, _, hy, _ => by simp at hy
  | z :: r, 0, y, _, hy, h0 => by
    simp at hy; subst hy
    rw [insE, if_neg (by omega), if_pos h0, List.set_cons_zero]
  | z :: r, lo + 1, y, hl, hy, h0 => by
    have h1 := hl 0 z (by omega) rfl
    rw [insE, if_pos h1, List.set_cons_succ, insE_hit r lo y (fun j a hj ha => hl (j + 1) a (by omega) (by simpa using ha)) (by simpa using hy) h0]
theorem insE_mid {x : Ky} : ∀ (g : List En) (lo : Nat), lo ≤ g.length → (∀ j z, j < lo → g[j]? = some z → ordK (kyE z) x < 0) → (∀ y, g[lo]? = some y → ¬ ordK (kyE y) x < 0 ∧ ¬ ordK (kyE y) x = 0) → insE x g = g.take lo ++ (x.1, x.2, 1) :: g.drop lo
  | [], lo, h, _, _ => by
    have : lo = 0 := by simpa using h
    subst this; rfl
  | z :: r, 0, _, _, hy => by
    obtain ⟨h1, h2⟩ := hy z rfl
    rw [insE, if_neg h1, if_neg h2]; rfl
  | z :: r, lo + 1, h, hl, hy => by
    have h1 := hl 0 z (by omega) rfl
    rw [insE, if_pos h1, insE_mid r lo (by simpa using h) (fun j a hj ha => hl (j + 1) a (by omega) (by simpa using ha)) (fun y h => hy y (by simpa using h))]
    rfl
theorem insS_hit {t : ByteArray} : ∀ (o : List ByteArray) (lo : Nat), (∀ j z, j < lo → o[j]? = some z → cmpB z t < 0) → o[lo]? = some t → insS t o = o
  | [], lo, _, hy => by simp at hy
  | z :: r, 0, _, hy => by
    simp at hy; subst hy
    rw [insS, if_neg (by rw [totB.self]; omega), if_pos rfl]
  | z :: r, lo + 1, hl, hy => by
    have h1 := hl 0 z (by omega) rfl
    rw [insS, if_pos h1, insS_hit r lo (fun j a hj ha => hl (j + 1) a (by omega) (by simpa using ha)) (by simpa using hy)]
theorem insS_mid {t : ByteArray} : ∀ (o : List ByteArray) (lo : Nat), lo ≤ o.length → (∀ j z, j < lo → o[j]? = some z → cmpB z t < 0) → (∀ y, o[lo]? = some y → ¬ cmpB y t < 0 ∧ ¬ y = t) → insS t o = o.take lo ++ t :: o.drop lo
  | [], lo, h, _, _ => by
    have : lo = 0 := by simpa using h
    subst this; rfl
  | z :: r, 0, _, _, hy => by
    obtain ⟨h1, h2⟩ := hy z rfl
    rw [insS, if_neg h1, if_neg h2]; rfl
  | z :: r, lo + 1, h, hl, hy => by
    have h1 := hl 0 z (by omega) rfl
    rw [insS, if_pos h1, insS_mid r lo (by simpa using h) (fun j a hj ha => hl (j + 1) a (by omega) (by simpa using ha)) (fun y h => hy y (by simpa using h))]
    rfl

/-- One more element at the end, the elements from place i on moved up. -/
def shL {α : Type} (g : List α) (e : α) (i : Nat) : List α := (g ++ [e]).take (i + 1) ++ g.drop i
section
variable {α : Type} {g : List α} {e z : α} {i : Nat}
theorem shL_len (h : i ≤ g.length) : (shL g e i).length = g.length + 1 := by unfold shL; simp; omega
theorem shL_top : shL g e g.length = g ++ [e] := by
  unfold shL
  rw [List.take_of_length_le (by simp), List.drop_length, List.append_nil]
theorem shL_at (h : i ≤ g.length) (p : Nat) : (shL g e i)[p]? = if p ≤ i then (g ++ [e])[p]? else g[p - 1]? := by
  unfold shL
  by_cases hp : p ≤ i
  · rw [if_pos hp, List.getElem?_append_left (by simp; omega), List.getElem?_take_of_lt (by omega)]
  · rw [if_neg hp, List.getElem?_append_right (by simp; omega), List.getElem?_drop, List.length_take, List.length_append, List.length_singleton]
    congr 1; omega
theorem shL_read (h : i + 1 ≤ g.length) (hz : g[i]? = some z) : (shL g e (i + 1))[i]? = some z := by
  rw [shL_at h, if_pos (by omega), List.getElem?_append_left (by omega), hz]
theorem shL_step (h : i + 1 ≤ g.length) (hz : g[i]? = some z) : (shL g e (i + 1)).set (i + 1) z = shL g e i := by
  apply List.ext_getElem?
  intro p
  rw [List.getElem?_set, shL_at h, shL_at (by omega), shL_len h]
  by_cases hp : i + 1 = p
  · subst hp
    rw [if_pos rfl, if_pos (by omega), if_neg (by omega), Nat.add_sub_cancel, hz]
  · rw [if_neg hp]
    by_cases h2 : p ≤ i
    · rw [if_pos h2, if_pos (by omega)]
    · rw [if_neg h2, if_neg (by omega)]
theorem shL_end (h : i ≤ g.length) : (shL g e i).set i e = g.take i ++ e :: g.drop i := by
  apply List.ext_getElem?
  intro p
  rw [List.getElem?_set, shL_at h, shL_len h]
  have hl : (g.take i).length = i := by rw [List.length_take]; omega
  by_cases hp : i = p
  · subst hp
    rw [if_pos rfl, if_pos (by omega), List.getElem?_append_right (by omega), hl, Nat.sub_self]; rfl
  · rw [if_neg hp]
    by_cases h2 : p ≤ i
    · rw [if_pos h2, List.getElem?_append_left (by omega), List.getElem?_append_left (by omega), List.getElem?_take_of_lt (by omega)]
    · rw [if_neg h2, List.getElem?_append_right (by omega), hl]
      obtain ⟨m, hm⟩ : ∃ m, p - i = m + 1 := ⟨p - i - 1, by omega⟩
      rw [hm, List.getElem?_cons_succ, List.getElem?_drop]
      congr 1; omega
end
end Go.Proofs.YtonadloonidmjaaDoor
namespace Go.Proofs.YtonadloonidmjaaDoor
open Go.RowKit
open Pl

section
variable {α : Type} {T : Ty α} {e : TypeId} {w : World} {base n cap k : Nat} {A : Option Addr} {xs : List α}
theorem Acc.addr (h : Acc T e w base (.slice A n cap) xs) (hk : k < n) : ∃ g, A = some ⟨g, 0, none⟩ ∧ base ≤ g ∧ g < w.heap.size := by
  obtain ⟨_, _, e1, _, _⟩ := h.form
  injection e1 with _ e1 _
  obtain ⟨css, h1, _⟩ := h
  rcases h1.2 with ⟨h0, _⟩ | ⟨g', cap', cur, h0, hbg, hg, _⟩
  · injection h0 with _ h0 _
    omega
  · injection h0 with h0 _ _
    exact ⟨g', h0, hbg, (Array.getElem?_eq_some_iff.1 hg).1⟩
/-- The cells of element k, and that what it leads to lies apart. -/
theorem Acc.at' {g : Nat} (h : Acc T e w base (.slice (some ⟨g, 0, none⟩) n cap) xs) (hk : k < n) :
    ∃ x cs, xs[k]? = some x ∧ T.rep w (fun b => base ≤ b ∧ some b ≠ some g) cs x ∧ ∀ i u, cs[i]? = some u → w.cell? ⟨g, k * T.size + i, none⟩ = some u := by
  obtain ⟨_, _, e1, _, _⟩ := h.form
  injection e1 with _ e1 _
  obtain ⟨css, h1, h2, h3⟩ := h
  have hlen : ∀ cs ∈ css, cs.length = T.size := by
    intro cs hcs
    obtain ⟨j, hj⟩ := List.mem_iff_getElem?.1 hcs
    have hjl : j < xs.length := by have := (List.getElem?_eq_some_iff.1 hj).1; omega
    exact T.len (h3 j _ cs (List.getElem?_eq_getElem hjl) hj)
  rcases h1.2 with ⟨h0, _⟩ | ⟨g', cap', cur, h0, hbg, hg, hn, hc, hsz, htk⟩
  · cases h0
  · injection h0 with h0 _ _
    injection h0 with h0
    injection h0 with h0
    subst h0
    have hx := List.getElem?_eq_getElem (l := xs) (i := k) (by omega)
    have hcs := List.getElem?_eq_getElem (l := css) (i := k) (by omega)
    refine ⟨_, _, hx, h3 k _ _ hx hcs, fun i u hi => ?_⟩
    have hf := flatten_at hlen k i _ u hcs hi
    rw [← htk, List.getElem?_take] at hf
    split at hf
    · rw [cell_of_row w g _ cur e (0, 0) hg]
      simpa using hf
    · cases hf
end

theorem grown_trans {a b c : World} {r : Option Nat} (h : a.grownBy b r) (k : b.grownBy c r) : a.grownBy c r :=
  ⟨k.os.trans h.os, k.tape.trans h.tape, k.output.trans h.output, Nat.le_trans h.size k.size, fun j hj hn => (k.block j (Nat.lt_of_lt_of_le hj h.size) hn).trans (h.block j hj hn)⟩
section
variable {w : World} {base n cap k g : Nat}
theorem Acc.en' {xs : List En} (h : Acc tEn 37 w base (.slice (some ⟨g, 0, none⟩) n cap) xs) (hk : k < n) :
    ∃ x u, Hid (xs[k]? = some x) ∧ x.2.1.size ≤ maxLen ∧ inI64 x.2.2 ∧ Sl tInt w (fun b => base ≤ b ∧ some b ≠ some g) u x.1 ∧ w.cell? ⟨g, k * 3, none⟩ = some u ∧ w.cell? ⟨g, k * 3 + 1, none⟩ = some (.string x.2.1) ∧ w.cell? ⟨g, k * 3 + 2, none⟩ = some (.int .i64 x.2.2) := by
  obtain ⟨x, cs, h1, h2, h3⟩ := h.at' hk
  obtain ⟨u, rfl, h4, h5, h6⟩ := en_rep h2
  exact ⟨x, u, h1, h5, h6, h4, h3 0 _ rfl, h3 1 _ rfl, h3 2 _ rfl⟩
theorem Acc.put_en {xs : List En} {x y : En} {u : Value} (h : Acc tEn 37 w base (.slice (some ⟨g, 0, none⟩) n cap) xs) (hx : xs[k]? = some x) (hu : Sl tInt w (fun b => base ≤ b ∧ some b ≠ some g) u y.1) (hs : y.2.1.size ≤ maxLen) (hc : inI64 y.2.2) :
    Acc tEn 37 (((w.setCell ⟨g, k * 3, none⟩ u).setCell ⟨g, k * 3 + 1, none⟩ (.string y.2.1)).setCell ⟨g, k * 3 + 2, none⟩ (.int .i64 y.2.2)) base (.slice (some ⟨g, 0, none⟩) n cap) (xs.set k y) ∧
      w.grownBy (((w.setCell ⟨g, k * 3, none⟩ u).setCell ⟨g, k * 3 + 1, none⟩ (.string y.2.1)).setCell ⟨g, k * 3 + 2, none⟩ (.int .i64 y.2.2)) (some g) := by
  have hkl := (List.getElem?_eq_some_iff.1 hx).1
  obtain ⟨a1, g1⟩ := h.put1 (u := u) (y := (y.1, x.2.1, x.2.2)) (i := 0) hx (by decide) fun cs hr => by
    obtain ⟨u0, rfl, _, h5, h6⟩ := en_rep hr
    exact en_mk (e := (y.1, x.2.1, x.2.2)) hu h5 h6
  obtain ⟨a2, g2⟩ := a1.put1 (j := k) (x := (y.1, x.2.1, x.2.2)) (u := .string y.2.1) (y := (y.1, y.2.1, x.2.2)) (i := 1) (by rw [List.getElem?_set, if_pos rfl, if_pos hkl]) (by decide) fun cs hr => by
    obtain ⟨u0, rfl, h4, _, h6⟩ := en_rep hr
    exact en_mk (e := (y.1, y.2.1, x.2.2)) h4 hs h6
  obtain ⟨a3, g3⟩ := a2.put1 (j := k) (x := (y.1, y.2.1, x.2.2)) (u := .int .i64 y.2.2) (y := y) (i := 2) (by rw [List.set_set, List.getElem?_set, if_pos rfl, if_pos hkl]) (by decide) fun cs hr => by
    obtain ⟨u0, rfl, h4, h5, _⟩ := en_rep hr
    exact en_mk (e := y) h4 h5 hc
  rw [List.set_set, List.set_set] at a3
  exact ⟨a3, grown_trans (grown_trans g1 g2) g3⟩
theorem Acc.put_cnt {xs : List En} {x : En} {c : Int} (h : Acc tEn 37 w base (.slice (some ⟨g, 0, none⟩) n cap) xs) (hx : xs[k]? = some x) (hc : inI64 c) :
    Acc tEn 37 (w.setCell ⟨g, k * 3 + 2, none⟩ (.int .i64 c)) base (.slice (some ⟨g, 0, none⟩) n cap) (xs.set k (x.1, x.2.1, c)) ∧ w.grownBy (w.setCell ⟨g, k * 3 + 2, none⟩ (.int .i64 c)) (some g) :=
  h.put1 (u := .int .i64 c) (y := (x.1, x.2.1, c)) (i := 2) hx (by decide) fun cs hr => by
    obtain ⟨u0, rfl, h4, h5, _⟩ := en_rep hr
    exact en_mk (e := (x.1, x.2.1, c)) h4 h5 hc
theorem Acc.str' {xs : List ByteArray} (h : Acc tStr 9 w base (.slice (some ⟨g, 0, none⟩) n cap) xs) (hk : k < n) : ∃ x, Hid (xs[k]? = some x) ∧ x.size ≤ maxLen ∧ w.cell? ⟨g, k, none⟩ = some (.string x) := by
  obtain ⟨x, cs, h1, ⟨rfl, h2⟩, h3⟩ := h.at' hk
  have := h3 0 _ rfl
  have e : k * tStr.size + 0 = k := by simp [tStr]
  rw [e] at this
  exact ⟨x, h1, h2, this⟩
theorem Acc.put_str {xs : List ByteArray} {x y : ByteArray} (h : Acc tStr 9 w base (.slice (some ⟨g, 0, none⟩) n cap) xs) (hx : xs[k]? = some x) (hs : y.size ≤ maxLen) :
    Acc tStr 9 (w.setCell ⟨g, k, none⟩ (.string y)) base (.slice (some ⟨g, 0, none⟩) n cap) (xs.set k y) ∧ w.grownBy (w.setCell ⟨g, k, none⟩ (.string y)) (some g) := by
  have h1 := h.put1 (u := .string y) (y := y) (i := 0) hx (by decide) fun cs hr => by
    obtain ⟨rfl, _⟩ := hr
    exact ⟨rfl, hs⟩
  have e : k * tStr.size + 0 = k := by simp [tStr]
  rw [e] at h1
  exact h1
end
end Go.Proofs.YtonadloonidmjaaDoor
namespace Go.Proofs.YtonadloonidmjaaDoor
open Go.RowKit
open Pl

theorem size37' : (Tryd.prog.info? 37).map (·.size) = some 3 := by kernel_rfl
/-- Data that lie apart from a row, kept while the row changes. -/
theorem sl_grown {α : Type} {T : Ty α} {w w' : World} {base g : Nat} {u : Value} {x : List α} (h : Sl T w (fun b => base ≤ b ∧ some b ≠ some g) u x) (hg : w.grownBy w' (some g)) : Sl T w' (fun b => base ≤ b ∧ some b ≠ some g) u x :=
  h.lt.keep fun b hb => ⟨hb.1, hg.block b hb.2 hb.1.2⟩
section
variable {ops : Array Oper} {o : Oper} {a : Act} {w : World} {K : Act → World → Prop} {Q : Exit → Act → World → Prop} {E : Prop} {base g n cap k : Nat} {xs : List En} {x y : En} {u : Value}
/-- An element read, at a step of a region that draws its order. -/
theorem step_load_en (hgd : o.guard = none) (p : Operand) (ho : o.op = .load 37 p) (hp : a.eval p = .pointer (some ⟨g, k * 3, none⟩)) (e0 : w.cell? ⟨g, k * 3, none⟩ = some u) (e1 : w.cell? ⟨g, k * 3 + 1, none⟩ = some (.string x.2.1)) (e2 : w.cell? ⟨g, k * 3 + 2, none⟩ = some (.int .i64 x.2.2))
    (next : K (a.put o.dst (.agg #[u, .string x.2.1, .int .i64 x.2.2])) w) : if Region.wanted o (yielded ops a.tmps) = true then Oper.wp Tryd.prog o a w K Q else E := by
  rw [if_pos (by simp [Region.wanted, hgd])]
  have hr := run_loadAt_mid (P := Tryd.prog) w g (k * 3) 37 [u, .string x.2.1, .int .i64 x.2.2] _ (fun j v hj => by
    match j, hj with
    | 0, hj => injection hj with hj; subst hj; exact e0
    | 1, hj => injection hj with hj; subst hj; exact e1
    | 2, hj => injection hj with hj; subst hj; exact e2) Tryd.underlying37 rfl size37'
  unfold Oper.wp execOp
  simp only [ho, hp, Sem.run_bind, hr, Result.andThen_ok, Sem.run_pure]
  exact next
/-- An element written, at a step of a region that draws its order. -/
theorem step_store_en (hgd : o.guard = none) (p q : Operand) (ho : o.op = .store 37 p q) (hp : a.eval p = .pointer (some ⟨g, k * 3, none⟩)) (hq : a.eval q = .agg #[u, .string y.2.1, .int .i64 y.2.2])
    (h : Acc tEn 37 w base (.slice (some ⟨g, 0, none⟩) n cap) xs) (hk : k < n) (hu : Sl tInt w (fun b => base ≤ b ∧ some b ≠ some g) u y.1) (hs : y.2.1.size ≤ maxLen) (hc : inI64 y.2.2)
    (next : ∀ w', Acc tEn 37 w' base (.slice (some ⟨g, 0, none⟩) n cap) (xs.set k y) → w.grownBy w' (some g) → K (a.put o.dst undef) w') : if Region.wanted o (yielded ops a.tmps) = true then Oper.wp Tryd.prog o a w K Q else E := by
  rw [if_pos (by simp [Region.wanted, hgd])]
  obtain ⟨x, u0, hx, _, _, _, e0, e1, e2⟩ := h.en' hk
  have hP := h.put_en (k := k) hx.out hu hs hc
  refine wp_store_mid 37 p q ho g (k * 3) #[u, .string y.2.1, .int .i64 y.2.2] hp hq (fun j hj => ?_) size37' ?_ ?_
  · refine ⟨?_, h.frozen _⟩
    have hj : j < 3 := hj
    match j, hj with
    | 0, _ => rw [Nat.add_zero, e0]; rfl
    | 1, _ => rw [e1]; rfl
    | 2, _ => rw [e2]; rfl
  · obtain ⟨A, m, c, rfl, _⟩ := hu.form'
    exact all_oneCell_toArray (cs := [_, _, _]) fun v hv => by
      simp only [List.mem_cons, List.not_mem_nil, or_false] at hv
      rcases hv with rfl | rfl | rfl <;> rfl
  · exact next _ hP.1 hP.2
end

/-- What a sorting call leaves: the list changed, all else as it was but for new blocks. -/
def RowR (g base n cap : Nat) (w : World) (xs : List En) (e : Ending) (w' : World) : Prop := e = .returned (.tuple #[]) ∧ Acc tEn 37 w' base (.slice (some ⟨g, 0, none⟩) n cap) xs ∧ w.grownBy w' (some g)
theorem at_mid {α : Type} (P X S : List α) {i : Nat} (h : i < X.length) : (P ++ (X ++ S))[P.length + i]? = X[i]? := by
  rw [List.getElem?_append_right (by omega), Nat.add_sub_cancel_left, List.getElem?_append_left h]
theorem set_mid {α : Type} (P X S : List α) (z : α) {i : Nat} (h : i < X.length) : (P ++ (X ++ S)).set (P.length + i) z = P ++ (X.set i z ++ S) := by
  rw [List.set_append_right _ _ (by omega), Nat.add_sub_cancel_left, List.set_append_left _ _ h]
/-- Two blocks of one length, the first k elements of each exchanged. -/
def swpL {α : Type} (A B : List α) (k : Nat) : List α := B.take k ++ A.drop k
theorem swpL_len {α : Type} {A B : List α} (h : A.length = B.length) {k : Nat} (hk : k ≤ A.length) : (swpL A B k).length = A.length := by unfold swpL; simp; omega
theorem swpL_set {α : Type} {A B : List α} (h : A.length = B.length) {k : Nat} {y : α} (hk : k < A.length) (hy : B[k]? = some y) : (swpL A B k).set k y = swpL A B (k + 1) := by
  apply List.ext_getElem?
  intro i
  have hl : (B.take k).length = k := by rw [List.length_take]; omega
  have hl2 : (B.take (k + 1)).length = k + 1 := by rw [List.length_take]; omega
  rw [List.getElem?_set, swpL_len h (by omega)]
  unfold swpL
  by_cases hi : k = i
  · subst hi
    rw [if_pos rfl, if_pos hk, List.getElem?_append_left (by omega), List.getElem?_take_of_lt (by omega), hy]
  · rw [if_neg hi]
    by_cases h1 : i < k
    · rw [List.getElem?_append_left (by omega), List.getElem?_append_left (by omega), List.getElem?_take_of_lt h1, List.getElem?_take_of_lt (by omega)]
    · rw [List.getElem?_append_right (by omega), List.getElem?_append_right (by omega), hl, hl2, List.getElem?_drop, List.getElem?_drop]
      congr 1; omega
theorem swpL_at {α : Type} {A B : List α} (h : A.length = B.length) {k : Nat} (hk : k < A.length) : (swpL A B k)[k]? = A[k]? := by
  have hl : (B.take k).length = k := by rw [List.length_take]; omega
  unfold swpL
  rw [List.getElem?_append_right (by omega), hl, List.getElem?_drop]
  congr 1; omega

set_option linter.unusedSimpArgs false in
set_option maxRecDepth 100000 in
set_option maxHeartbeats 16000000 in
theorem swapRange_any {g base n cap a b : Nat} {w : World} {P A M B S : List En} (h : Acc tEn 37 w base (.slice (some ⟨g, 0, none⟩) n cap) (P ++ (A ++ (M ++ (B ++ S))))) (ha : a = P.length) (hb : b = P.length + A.length + M.length) (hAB : A.length = B.length) (hn : n ≤ 1000000) :
    Calls Tryd.prog 98 #[.slice (some ⟨g, 0, none⟩) n cap, .int .i64 a, .int .i64 b, .int .i64 A.length, .func (.func 32) #[] #[]] w (RowR g base n cap w (P ++ (B ++ (M ++ (A ++ S))))) := by
  obtain ⟨N, hN⟩ : ∃ N, N = A.length := ⟨_, rfl⟩
  have hlen : n = P.length + A.length + M.length + B.length + S.length := by
    obtain ⟨_, _, e1, _, _⟩ := h.form
    injection e1 with _ e1 _
    rw [e1]; simp; omega
  have HN := Lib.hid hN
  have Ha := Lib.hid ha
  have Hb := Lib.hid hb
  have hbn : b + N ≤ n := by omega
  have hab : a + N ≤ b := by omega
  rw [← hN]
  clear ha hb hN
  go_enter Tryd.func98, Tryd.ntmps98
  go_wp2_with fail
  go_loopw [10] (fun i wr => ∃ k : Nat, k ≤ N ∧ i = .int .i64 k ∧ w.grownBy wr (some g) ∧ Acc tEn 37 wr base (.slice (some ⟨g, 0, none⟩) n cap) (P ++ (swpL A B k ++ (M ++ (swpL B A k ++ S))))) (fun i _ => N - (intOf i).toNat)
  case atStart => exact ⟨0, Nat.zero_le _, rfl, ⟨rfl, rfl, rfl, Nat.le_refl _, fun _ _ _ => rfl⟩, by unfold swpL; simpa using h⟩
  case round =>
    obtain ⟨k, hk, rfl, hgr, hA⟩ := hrel
    by_cases hlt : k < N
    · obtain ⟨p, hp⟩ : ∃ p, p = a + k := ⟨_, rfl⟩
      obtain ⟨q, hq⟩ : ∃ q, q = b + k := ⟨_, rfl⟩
      have hpi : (a : Int) + (k : Int) = (p : Int) := by omega
      have hqi : (b : Int) + (k : Int) = (q : Int) := by omega
      have hpw : IntKind.i64.wrap (p : Int) = (p : Int) := by simp [IntKind.wrap, IntKind.bits, IntKind.signed]; omega
      have hqw : IntKind.i64.wrap (q : Int) = (q : Int) := by simp [IntKind.wrap, IntKind.bits, IntKind.signed]; omega
      have hpn : p < n := by omega
      have hqn : q < n := by omega
      have hpq : p ≠ q := by omega
      obtain ⟨x, u1, hx, hxs, hxc, hu1, e0, e1, e2⟩ := hA.en' (k := p) hpn
      obtain ⟨y, u2, hy, hys, hyc, hu2, f0, f1, f2⟩ := hA.en' (k := q) hqn
      have Hp := Lib.hid hp
      have Hq := Lib.hid hq
      have hkA : k < A.length := by have := HN.out; omega
      have hxA : Hid (A[k]? = some x) := by
        have h1 := hx.out
        rw [Hp.out, Ha.out, at_mid _ _ _ (by rw [swpL_len hAB (by omega)]; exact hkA), swpL_at hAB hkA] at h1
        exact h1
      have hyB : Hid (B[k]? = some y) := by
        have h1 := hy.out
        have e : q = (P ++ (swpL A B k ++ M)).length + k := by rw [List.length_append, List.length_append, swpL_len hAB (by omega), Hq.out, Hb.out]; omega
        rw [show P ++ (swpL A B k ++ (M ++ (swpL B A k ++ S))) = (P ++ (swpL A B k ++ M)) ++ (swpL B A k ++ S) by simp, e, at_mid _ _ _ (by rw [swpL_len hAB.symm (by omega)]; omega), swpL_at hAB.symm (by omega)] at h1
        exact h1
      have hres : Hid (((P ++ (swpL A B k ++ (M ++ (swpL B A k ++ S)))).set p y).set q x = P ++ (swpL A B (k + 1) ++ (M ++ (swpL B A (k + 1) ++ S)))) := by
        show _ = _
        have e : q = (P ++ (swpL A B (k + 1) ++ M)).length + k := by rw [List.length_append, List.length_append, swpL_len hAB (by omega), Hq.out, Hb.out]; omega
        rw [Hp.out, Ha.out, set_mid _ _ _ _ (by rw [swpL_len hAB (by omega)]; exact hkA), swpL_set hAB hkA hyB.out]
        rw [show P ++ (swpL A B (k + 1) ++ (M ++ (swpL B A k ++ S))) = (P ++ (swpL A B (k + 1) ++ M)) ++ (swpL B A k ++ S) by simp, e, set_mid _ _ _ _ (by rw [swpL_len hAB.symm (by omega)]; omega), swpL_set hAB.symm (by omega) hxA.out]
        simp
      clear hp hq hx hy
      have hAd := hA.after (Below.refl _ _).drew
      have hu1 : Sl tInt wr.drew (fun b => base ≤ b ∧ some b ≠ some g) u1 x.1 := hu1
      have hu2 : Sl tInt wr.drew (fun b => base ≤ b ∧ some b ≠ some g) u2 y.1 := hu2
      have hgd : w.grownBy wr.drew (some g) := grown_drew hgr
      clear hA hgr hlen hAB
      go_wp2_with fail
      refine wp_region_held_drew (S := fun _ => True) (by kernel_rfl) trivial (fun hHeld => ?_)
      refine wpAnyH_take (i := 0) (oi := { dst := some 16, op := Go.Op.move (Go.Operand.tmp 0), type := 28, pos := "zsortanyfunc.go:331", after := #[], guard := none }) (v := ?v1) rfl (by kernel_rfl) (by kernel_rfl) (by kernel_rfl) (fun _ _ _ h => h) (Or.inl ⟨by rfl, ?hy1⟩) (by assumption) ?_
      case hy1 => (intro w hSw; (try dsimp only at hSw); go_simp; try with_reducible rfl)
      try simp only [Act.put, List.setIfInBounds_toArray, List.set_cons_zero, List.set_cons_succ]
      refine wpAnyH_take (i := 1) (oi := { dst := some 17, op := Go.Op.move (Go.Operand.tmp 1), type := 3, pos := "zsortanyfunc.go:331", after := #[], guard := none }) (v := ?v2) rfl (by kernel_rfl) (by kernel_rfl) (by kernel_rfl) (fun _ _ _ h => h) (Or.inl ⟨by rfl, ?hy2⟩) (by assumption) ?_
      case hy2 => (intro w hSw; (try dsimp only at hSw); go_simp; try with_reducible rfl)
      try simp only [Act.put, List.setIfInBounds_toArray, List.set_cons_zero, List.set_cons_succ]
      refine wpAnyH_take (i := 2) (oi := { dst := some 18, op := Go.Op.move (Go.Operand.tmp 10), type := 3, pos := "zsortanyfunc.go:331", after := #[], guard := none }) (v := ?v3) rfl (by kernel_rfl) (by kernel_rfl) (by kernel_rfl) (fun _ _ _ h => h) (Or.inl ⟨by rfl, ?hy3⟩) (by assumption) ?_
      case hy3 => (intro w hSw; (try dsimp only at hSw); go_simp; try with_reducible rfl)
      try simp only [Act.put, List.setIfInBounds_toArray, List.set_cons_zero, List.set_cons_succ]
      refine wpAnyH_take (i := 3) (oi := { dst := some 19, op := Go.Op.binOp Go.BinOp.add 3 (Go.Operand.tmp 17) (Go.Operand.tmp 18) 3, type := 3, pos := "zsortanyfunc.go:331", after := #[{ on := 1, ground := Go.Ground.data }, { on := 2, ground := Go.Ground.data }], guard := none }) (v := ?v4) rfl (by kernel_rfl) (by kernel_rfl) (by kernel_rfl) (fun _ _ _ h => h) (Or.inl ⟨by rfl, ?hy4⟩) (by assumption) ?_
      case hy4 => (intro w hSw; (try dsimp only at hSw); go_simp; try with_reducible rfl)
      try simp only [Act.put, List.setIfInBounds_toArray, List.set_cons_zero, List.set_cons_succ]
      refine wpAnyH_take (i := 4) (oi := { dst := some 20, op := Go.Op.move (Go.Operand.tmp 0), type := 28, pos := "zsortanyfunc.go:331", after := #[{ on := 21, ground := Go.Ground.gcOnly Go.Departure.lateStores }], guard := none }) (v := ?v5) rfl (by kernel_rfl) (by kernel_rfl) (by kernel_rfl) (fun _ _ _ h => h) (Or.inl ⟨by rfl, ?hy5⟩) (by assumption) ?_
      case hy5 => (intro w hSw; (try dsimp only at hSw); go_simp; try with_reducible rfl)
      try simp only [Act.put, List.setIfInBounds_toArray, List.set_cons_zero, List.set_cons_succ]
      refine wpAnyH_take (i := 5) (oi := { dst := some 21, op := Go.Op.move (Go.Operand.tmp 2), type := 3, pos := "zsortanyfunc.go:331", after := #[{ on := 21, ground := Go.Ground.gcOnly Go.Departure.lateStores }], guard := none }) (v := ?v6) rfl (by kernel_rfl) (by kernel_rfl) (by kernel_rfl) (fun _ _ _ h => h) (Or.inl ⟨by rfl, ?hy6⟩) (by assumption) ?_
      case hy6 => (intro w hSw; (try dsimp only at hSw); go_simp; try with_reducible rfl)
      try simp only [Act.put, List.setIfInBounds_toArray, List.set_cons_zero, List.set_cons_succ]
      refine wpAnyH_take (i := 6) (oi := { dst := some 22, op := Go.Op.move (Go.Operand.tmp 10), type := 3, pos := "zsortanyfunc.go:331", after := #[{ on := 21, ground := Go.Ground.gcOnly Go.Departure.lateStores }], guard := none }) (v := ?v7) rfl (by kernel_rfl) (by kernel_rfl) (by kernel_rfl) (fun _ _ _ h => h) (Or.inl ⟨by rfl, ?hy7⟩) (by assumption) ?_
      case hy7 => (intro w hSw; (try dsimp only at hSw); go_simp; try with_reducible rfl)
      try simp only [Act.put, List.setIfInBounds_toArray, List.set_cons_zero, List.set_cons_succ]
      refine wpAnyH_take (i := 7) (oi := { dst := some 23, op := Go.Op.binOp Go.BinOp.add 3 (Go.Operand.tmp 21) (Go.Operand.tmp 22) 3, type := 3, pos := "zsortanyfunc.go:331", after := #[{ on := 5, ground := Go.Ground.data }, { on := 6, ground := Go.Ground.data }, { on := 21, ground := Go.Ground.gcOnly Go.Departure.lateStores }], guard := none }) (v := ?v8) rfl (by kernel_rfl) (by kernel_rfl) (by kernel_rfl) (fun _ _ _ h => h) (Or.inl ⟨by rfl, ?hy8⟩) (by assumption) ?_
      case hy8 => (intro w hSw; (try dsimp only at hSw); go_simp; try with_reducible rfl)
      try simp only [Act.put, List.setIfInBounds_toArray, List.set_cons_zero, List.set_cons_succ]
      refine wpAnyH_take (i := 8) (oi := { dst := some 24, op := Go.Op.move (Go.Operand.tmp 0), type := 28, pos := "zsortanyfunc.go:331", after := #[], guard := none }) (v := ?v9) rfl (by kernel_rfl) (by kernel_rfl) (by kernel_rfl) (fun _ _ _ h => h) (Or.inl ⟨by rfl, ?hy9⟩) (by assumption) ?_
      case hy9 => (intro w hSw; (try dsimp only at hSw); go_simp; try with_reducible rfl)
      try simp only [Act.put, List.setIfInBounds_toArray, List.set_cons_zero, List.set_cons_succ]
      refine wpAnyH_take (i := 9) (oi := { dst := some 25, op := Go.Op.move (Go.Operand.tmp 2), type := 3, pos := "zsortanyfunc.go:331", after := #[], guard := none }) (v := ?v10) rfl (by kernel_rfl) (by kernel_rfl) (by kernel_rfl) (fun _ _ _ h => h) (Or.inl ⟨by rfl, ?hy10⟩) (by assumption) ?_
      case hy10 => (intro w hSw; (try dsimp only at hSw); go_simp; try with_reducible rfl)
      try simp only [Act.put, List.setIfInBounds_toArray, List.set_cons_zero, List.set_cons_succ]
      refine wpAnyH_take (i := 10) (oi := { dst := some 26, op := Go.Op.move (Go.Operand.tmp 10), type := 3, pos := "zsortanyfunc.go:331", after := #[], guard := none }) (v := ?v11) rfl (by kernel_rfl) (by kernel_rfl) (by kernel_rfl) (fun _ _ _ h => h) (Or.inl ⟨by rfl, ?hy11⟩) (by assumption) ?_
      case hy11 => (intro w hSw; (try dsimp only at hSw); go_simp; try with_reducible rfl)
      try simp only [Act.put, List.setIfInBounds_toArray, List.set_cons_zero, List.set_cons_succ]
      refine wpAnyH_take (i := 11) (oi := { dst := some 27, op := Go.Op.binOp Go.BinOp.add 3 (Go.Operand.tmp 25) (Go.Operand.tmp 26) 3, type := 3, pos := "zsortanyfunc.go:331", after := #[{ on := 9, ground := Go.Ground.data }, { on := 10, ground := Go.Ground.data }], guard := none }) (v := ?v12) rfl (by kernel_rfl) (by kernel_rfl) (by kernel_rfl) (fun _ _ _ h => h) (Or.inl ⟨by rfl, ?hy12⟩) (by assumption) ?_
      case hy12 => (intro w hSw; (try dsimp only at hSw); go_simp; try with_reducible rfl)
      try simp only [Act.put, List.setIfInBounds_toArray, List.set_cons_zero, List.set_cons_succ]
      refine wpAnyH_take (i := 12) (oi := { dst := some 28, op := Go.Op.indexAddr 28 (Go.Operand.tmp 24) (Go.Operand.tmp 27), type := 0, pos := "zsortanyfunc.go:331", after := #[{ on := 8, ground := Go.Ground.data }, { on := 11, ground := Go.Ground.data }], guard := none }) (v := ?v13) rfl (by kernel_rfl) (by kernel_rfl) (by kernel_rfl) (fun _ _ _ h => h) (Or.inl ⟨by rfl, ?hy13⟩) (by assumption) ?_
      case hy13 => (intro w hSw; (try dsimp only at hSw); go_simp; try with_reducible rfl)
      try simp only [Act.put, List.setIfInBounds_toArray, List.set_cons_zero, List.set_cons_succ]
      refine wpAnyH_take (i := 14) (oi := { dst := some 30, op := Go.Op.move (Go.Operand.tmp 0), type := 28, pos := "zsortanyfunc.go:331", after := #[], guard := none }) (v := ?v14) rfl (by kernel_rfl) (by kernel_rfl) (by kernel_rfl) (fun _ _ _ h => h) (Or.inl ⟨by rfl, ?hy14⟩) (by assumption) ?_
      case hy14 => (intro w hSw; (try dsimp only at hSw); go_simp; try with_reducible rfl)
      try simp only [Act.put, List.setIfInBounds_toArray, List.set_cons_zero, List.set_cons_succ]
      refine wpAnyH_take (i := 15) (oi := { dst := some 31, op := Go.Op.move (Go.Operand.tmp 1), type := 3, pos := "zsortanyfunc.go:331", after := #[], guard := none }) (v := ?v15) rfl (by kernel_rfl) (by kernel_rfl) (by kernel_rfl) (fun _ _ _ h => h) (Or.inl ⟨by rfl, ?hy15⟩) (by assumption) ?_
      case hy15 => (intro w hSw; (try dsimp only at hSw); go_simp; try with_reducible rfl)
      try simp only [Act.put, List.setIfInBounds_toArray, List.set_cons_zero, List.set_cons_succ]
      refine wpAnyH_take (i := 16) (oi := { dst := some 32, op := Go.Op.move (Go.Operand.tmp 10), type := 3, pos := "zsortanyfunc.go:331", after := #[], guard := none }) (v := ?v16) rfl (by kernel_rfl) (by kernel_rfl) (by kernel_rfl) (fun _ _ _ h => h) (Or.inl ⟨by rfl, ?hy16⟩) (by assumption) ?_
      case hy16 => (intro w hSw; (try dsimp only at hSw); go_simp; try with_reducible rfl)
      try simp only [Act.put, List.setIfInBounds_toArray, List.set_cons_zero, List.set_cons_succ]
      refine wpAnyH_take (i := 17) (oi := { dst := some 33, op := Go.Op.binOp Go.BinOp.add 3 (Go.Operand.tmp 31) (Go.Operand.tmp 32) 3, type := 3, pos := "zsortanyfunc.go:331", after := #[{ on := 15, ground := Go.Ground.data }, { on := 16, ground := Go.Ground.data }], guard := none }) (v := ?v17) rfl (by kernel_rfl) (by kernel_rfl) (by kernel_rfl) (fun _ _ _ h => h) (Or.inl ⟨by rfl, ?hy17⟩) (by assumption) ?_
      case hy17 => (intro w hSw; (try dsimp only at hSw); go_simp; try with_reducible rfl)
      try simp only [Act.put, List.setIfInBounds_toArray, List.set_cons_zero, List.set_cons_succ]
      refine wpAnyH_take (i := 18) (oi := { dst := some 34, op := Go.Op.indexAddr 28 (Go.Operand.tmp 30) (Go.Operand.tmp 33), type := 0, pos := "zsortanyfunc.go:331", after := #[{ on := 14, ground := Go.Ground.data }, { on := 17, ground := Go.Ground.data }], guard := none }) (v := ?v18) rfl (by kernel_rfl) (by kernel_rfl) (by kernel_rfl) (fun _ _ _ h => h) (Or.inl ⟨by rfl, ?hy18⟩) (by assumption) ?_
      case hy18 => (intro w hSw; (try dsimp only at hSw); go_simp; try with_reducible rfl)
      try simp only [Act.put, List.setIfInBounds_toArray, List.set_cons_zero, List.set_cons_succ]
      refine wpAnyH_ready (rs := [13, 19]) (by kernel_rfl) (by simp) ?_
      refine (AllReadyH.cons (i := 13) (o := { dst := some 29, op := Go.Op.load 37 (Go.Operand.tmp 28), type := 37, pos := "zsortanyfunc.go:331", after := #[{ on := 12, ground := Go.Ground.data }], guard := none }) rfl (fun K' hK' => ?_) (AllReadyH.cons (i := 19) (o := { dst := some 35, op := Go.Op.load 37 (Go.Operand.tmp 34), type := 37, pos := "zsortanyfunc.go:331", after := #[{ on := 18, ground := Go.Ground.data }], guard := none }) rfl (fun K' hK' => ?_) AllReadyH.nil))
      · refine step_load_en rfl _ rfl rfl f0 f1 f2 ?_
        refine hK'.out _ _ trivial (fun hHeld => ?_)
        clear hK' K'
        try simp only [Act.put, List.setIfInBounds_toArray, List.set_cons_zero, List.set_cons_succ]
        refine wpAnyH_ready (rs := [19]) (by kernel_rfl) (by simp) ?_
        refine (AllReadyH.cons (i := 19) (o := { dst := some 35, op := Go.Op.load 37 (Go.Operand.tmp 34), type := 37, pos := "zsortanyfunc.go:331", after := #[{ on := 18, ground := Go.Ground.data }], guard := none }) rfl (fun K' hK' => ?_) AllReadyH.nil)
        refine step_load_en rfl _ rfl rfl e0 e1 e2 ?_
        refine hK'.out _ _ trivial (fun hHeld => ?_)
        clear hK' K'
        try simp only [Act.put, List.setIfInBounds_toArray, List.set_cons_zero, List.set_cons_succ]
        refine wpAnyH_take (i := 20) (oi := { dst := some 36, op := Go.Op.indexAddr 28 (Go.Operand.tmp 16) (Go.Operand.tmp 19), type := 0, pos := "zsortanyfunc.go:331", after := #[{ on := 0, ground := Go.Ground.data }, { on := 3, ground := Go.Ground.data }, { on := 0, ground := Go.Ground.phase }, { on := 1, ground := Go.Ground.phase }, { on := 2, ground := Go.Ground.phase }, { on := 3, ground := Go.Ground.phase }, { on := 4, ground := Go.Ground.textOnly Go.Departure.lateStores }, { on := 5, ground := Go.Ground.textOnly Go.Departure.lateStores }, { on := 6, ground := Go.Ground.textOnly Go.Departure.lateStores }, { on := 7, ground := Go.Ground.textOnly Go.Departure.lateStores }, { on := 8, ground := Go.Ground.phase }, { on := 9, ground := Go.Ground.phase }, { on := 10, ground := Go.Ground.phase }, { on := 11, ground := Go.Ground.phase }, { on := 12, ground := Go.Ground.phase }, { on := 13, ground := Go.Ground.phase }, { on := 14, ground := Go.Ground.textOnly Go.Departure.lateStores }, { on := 15, ground := Go.Ground.textOnly Go.Departure.lateStores }, { on := 16, ground := Go.Ground.textOnly Go.Departure.lateStores }, { on := 17, ground := Go.Ground.textOnly Go.Departure.lateStores }, { on := 18, ground := Go.Ground.textOnly Go.Departure.lateStoresUnsure }, { on := 19, ground := Go.Ground.phase }], guard := none }) (v := ?v19) rfl (by kernel_rfl) (by kernel_rfl) (by kernel_rfl) (fun _ _ _ h => h) (Or.inl ⟨by rfl, ?hy19⟩) (by assumption) ?_
        case hy19 => (intro w hSw; (try dsimp only at hSw); go_simp; try with_reducible rfl)
        try simp only [Act.put, List.setIfInBounds_toArray, List.set_cons_zero, List.set_cons_succ]
        refine wpAnyH_ready (rs := [21]) (by kernel_rfl) (by simp) ?_
        refine (AllReadyH.cons (i := 21) (o := { dst := none, op := Go.Op.store 37 (Go.Operand.tmp 36) (Go.Operand.tmp 29), type := 0, pos := "zsortanyfunc.go:331", after := #[{ on := 20, ground := Go.Ground.data }, { on := 13, ground := Go.Ground.data }, { on := 0, ground := Go.Ground.phase }, { on := 1, ground := Go.Ground.phase }, { on := 2, ground := Go.Ground.phase }, { on := 3, ground := Go.Ground.phase }, { on := 4, ground := Go.Ground.textOnly Go.Departure.lateStores }, { on := 5, ground := Go.Ground.textOnly Go.Departure.lateStores }, { on := 6, ground := Go.Ground.textOnly Go.Departure.lateStores }, { on := 7, ground := Go.Ground.textOnly Go.Departure.lateStores }, { on := 8, ground := Go.Ground.phase }, { on := 9, ground := Go.Ground.phase }, { on := 10, ground := Go.Ground.phase }, { on := 11, ground := Go.Ground.phase }, { on := 12, ground := Go.Ground.phase }, { on := 13, ground := Go.Ground.phase }, { on := 14, ground := Go.Ground.textOnly Go.Departure.lateStores }, { on := 15, ground := Go.Ground.textOnly Go.Departure.lateStores }, { on := 16, ground := Go.Ground.textOnly Go.Departure.lateStores }, { on := 17, ground := Go.Ground.textOnly Go.Departure.lateStores }, { on := 18, ground := Go.Ground.textOnly Go.Departure.lateStoresUnsure }, { on := 19, ground := Go.Ground.phase }], guard := none }) rfl (fun K' hK' => ?_) AllReadyH.nil)
        refine step_store_en rfl _ _ rfl rfl rfl hAd hpn hu2 hys hyc ?_
        intro wA hA1 hgA
        refine hK'.out _ _ trivial (fun hHeld => ?_)
        clear hK' K'
        try simp only [Act.put, List.setIfInBounds_toArray, List.set_cons_zero, List.set_cons_succ]
        refine wpAnyH_take (i := 22) (oi := { dst := some 37, op := Go.Op.indexAddr 28 (Go.Operand.tmp 20) (Go.Operand.tmp 23), type := 0, pos := "zsortanyfunc.go:331", after := #[{ on := 4, ground := Go.Ground.data }, { on := 7, ground := Go.Ground.data }, { on := 0, ground := Go.Ground.phase }, { on := 1, ground := Go.Ground.phase }, { on := 2, ground := Go.Ground.phase }, { on := 3, ground := Go.Ground.phase }, { on := 4, ground := Go.Ground.phase }, { on := 5, ground := Go.Ground.phase }, { on := 6, ground := Go.Ground.phase }, { on := 7, ground := Go.Ground.phase }, { on := 8, ground := Go.Ground.phase }, { on := 9, ground := Go.Ground.phase }, { on := 10, ground := Go.Ground.phase }, { on := 11, ground := Go.Ground.phase }, { on := 12, ground := Go.Ground.phase }, { on := 13, ground := Go.Ground.phase }, { on := 14, ground := Go.Ground.phase }, { on := 15, ground := Go.Ground.phase }, { on := 16, ground := Go.Ground.phase }, { on := 17, ground := Go.Ground.phase }, { on := 18, ground := Go.Ground.phase }, { on := 19, ground := Go.Ground.phase }, { on := 20, ground := Go.Ground.phase }, { on := 21, ground := Go.Ground.phase }], guard := none }) (v := ?v20) rfl (by kernel_rfl) (by kernel_rfl) (by kernel_rfl) (fun _ _ _ h => h) (Or.inl ⟨by rfl, ?hy20⟩) (by assumption) ?_
        case hy20 => (intro w hSw; (try dsimp only at hSw); go_simp; try with_reducible rfl)
        try simp only [Act.put, List.setIfInBounds_toArray, List.set_cons_zero, List.set_cons_succ]
        refine wpAnyH_ready (rs := [23]) (by kernel_rfl) (by simp) ?_
        refine (AllReadyH.cons (i := 23) (o := { dst := none, op := Go.Op.store 37 (Go.Operand.tmp 37) (Go.Operand.tmp 35), type := 0, pos := "zsortanyfunc.go:331", after := #[{ on := 22, ground := Go.Ground.data }, { on := 19, ground := Go.Ground.data }, { on := 21, ground := Go.Ground.chain }, { on := 0, ground := Go.Ground.phase }, { on := 1, ground := Go.Ground.phase }, { on := 2, ground := Go.Ground.phase }, { on := 3, ground := Go.Ground.phase }, { on := 4, ground := Go.Ground.phase }, { on := 5, ground := Go.Ground.phase }, { on := 6, ground := Go.Ground.phase }, { on := 7, ground := Go.Ground.phase }, { on := 8, ground := Go.Ground.phase }, { on := 9, ground := Go.Ground.phase }, { on := 10, ground := Go.Ground.phase }, { on := 11, ground := Go.Ground.phase }, { on := 12, ground := Go.Ground.phase }, { on := 13, ground := Go.Ground.phase }, { on := 14, ground := Go.Ground.phase }, { on := 15, ground := Go.Ground.phase }, { on := 16, ground := Go.Ground.phase }, { on := 17, ground := Go.Ground.phase }, { on := 18, ground := Go.Ground.phase }, { on := 19, ground := Go.Ground.phase }, { on := 20, ground := Go.Ground.phase }, { on := 21, ground := Go.Ground.phase }], guard := none }) rfl (fun K' hK' => ?_) AllReadyH.nil)
        refine step_store_en rfl _ _ rfl rfl rfl hA1 hqn (sl_grown hu1 hgA) hxs hxc ?_
        intro wB hA2 hgB
        refine hK'.out _ _ trivial (fun hHeld => ?_)
        clear hK' K'
        try simp only [Act.put, List.setIfInBounds_toArray, List.set_cons_zero, List.set_cons_succ]
        refine wpAnyH_done (by kernel_rfl) ?_ _
        rw [hres.out] at hA2
        go_wp2_with fail
        exact ⟨⟨k + 1, hlt, by go_num, grown_trans hgd (grown_trans hgA hgB), hA2⟩, by simp [intOf]; omega⟩
      · refine step_load_en rfl _ rfl rfl e0 e1 e2 ?_
        refine hK'.out _ _ trivial (fun hHeld => ?_)
        clear hK' K'
        try simp only [Act.put, List.setIfInBounds_toArray, List.set_cons_zero, List.set_cons_succ]
        refine wpAnyH_ready (rs := [13]) (by kernel_rfl) (by simp) ?_
        refine (AllReadyH.cons (i := 13) (o := { dst := some 29, op := Go.Op.load 37 (Go.Operand.tmp 28), type := 37, pos := "zsortanyfunc.go:331", after := #[{ on := 12, ground := Go.Ground.data }], guard := none }) rfl (fun K' hK' => ?_) AllReadyH.nil)
        refine step_load_en rfl _ rfl rfl f0 f1 f2 ?_
        refine hK'.out _ _ trivial (fun hHeld => ?_)
        clear hK' K'
        try simp only [Act.put, List.setIfInBounds_toArray, List.set_cons_zero, List.set_cons_succ]
        refine wpAnyH_take (i := 20) (oi := { dst := some 36, op := Go.Op.indexAddr 28 (Go.Operand.tmp 16) (Go.Operand.tmp 19), type := 0, pos := "zsortanyfunc.go:331", after := #[{ on := 0, ground := Go.Ground.data }, { on := 3, ground := Go.Ground.data }, { on := 0, ground := Go.Ground.phase }, { on := 1, ground := Go.Ground.phase }, { on := 2, ground := Go.Ground.phase }, { on := 3, ground := Go.Ground.phase }, { on := 4, ground := Go.Ground.textOnly Go.Departure.lateStores }, { on := 5, ground := Go.Ground.textOnly Go.Departure.lateStores }, { on := 6, ground := Go.Ground.textOnly Go.Departure.lateStores }, { on := 7, ground := Go.Ground.textOnly Go.Departure.lateStores }, { on := 8, ground := Go.Ground.phase }, { on := 9, ground := Go.Ground.phase }, { on := 10, ground := Go.Ground.phase }, { on := 11, ground := Go.Ground.phase }, { on := 12, ground := Go.Ground.phase }, { on := 13, ground := Go.Ground.phase }, { on := 14, ground := Go.Ground.textOnly Go.Departure.lateStores }, { on := 15, ground := Go.Ground.textOnly Go.Departure.lateStores }, { on := 16, ground := Go.Ground.textOnly Go.Departure.lateStores }, { on := 17, ground := Go.Ground.textOnly Go.Departure.lateStores }, { on := 18, ground := Go.Ground.textOnly Go.Departure.lateStoresUnsure }, { on := 19, ground := Go.Ground.phase }], guard := none }) (v := ?v21) rfl (by kernel_rfl) (by kernel_rfl) (by kernel_rfl) (fun _ _ _ h => h) (Or.inl ⟨by rfl, ?hy21⟩) (by assumption) ?_
        case hy21 => (intro w hSw; (try dsimp only at hSw); go_simp; try with_reducible rfl)
        try simp only [Act.put, List.setIfInBounds_toArray, List.set_cons_zero, List.set_cons_succ]
        refine wpAnyH_ready (rs := [21]) (by kernel_rfl) (by simp) ?_
        refine (AllReadyH.cons (i := 21) (o := { dst := none, op := Go.Op.store 37 (Go.Operand.tmp 36) (Go.Operand.tmp 29), type := 0, pos := "zsortanyfunc.go:331", after := #[{ on := 20, ground := Go.Ground.data }, { on := 13, ground := Go.Ground.data }, { on := 0, ground := Go.Ground.phase }, { on := 1, ground := Go.Ground.phase }, { on := 2, ground := Go.Ground.phase }, { on := 3, ground := Go.Ground.phase }, { on := 4, ground := Go.Ground.textOnly Go.Departure.lateStores }, { on := 5, ground := Go.Ground.textOnly Go.Departure.lateStores }, { on := 6, ground := Go.Ground.textOnly Go.Departure.lateStores }, { on := 7, ground := Go.Ground.textOnly Go.Departure.lateStores }, { on := 8, ground := Go.Ground.phase }, { on := 9, ground := Go.Ground.phase }, { on := 10, ground := Go.Ground.phase }, { on := 11, ground := Go.Ground.phase }, { on := 12, ground := Go.Ground.phase }, { on := 13, ground := Go.Ground.phase }, { on := 14, ground := Go.Ground.textOnly Go.Departure.lateStores }, { on := 15, ground := Go.Ground.textOnly Go.Departure.lateStores }, { on := 16, ground := Go.Ground.textOnly Go.Departure.lateStores }, { on := 17, ground := Go.Ground.textOnly Go.Departure.lateStores }, { on := 18, ground := Go.Ground.textOnly Go.Departure.lateStoresUnsure }, { on := 19, ground := Go.Ground.phase }], guard := none }) rfl (fun K' hK' => ?_) AllReadyH.nil)
        refine step_store_en rfl _ _ rfl rfl rfl hAd hpn hu2 hys hyc ?_
        intro wA hA1 hgA
        refine hK'.out _ _ trivial (fun hHeld => ?_)
        clear hK' K'
        try simp only [Act.put, List.setIfInBounds_toArray, List.set_cons_zero, List.set_cons_succ]
        refine wpAnyH_take (i := 22) (oi := { dst := some 37, op := Go.Op.indexAddr 28 (Go.Operand.tmp 20) (Go.Operand.tmp 23), type := 0, pos := "zsortanyfunc.go:331", after := #[{ on := 4, ground := Go.Ground.data }, { on := 7, ground := Go.Ground.data }, { on := 0, ground := Go.Ground.phase }, { on := 1, ground := Go.Ground.phase }, { on := 2, ground := Go.Ground.phase }, { on := 3, ground := Go.Ground.phase }, { on := 4, ground := Go.Ground.phase }, { on := 5, ground := Go.Ground.phase }, { on := 6, ground := Go.Ground.phase }, { on := 7, ground := Go.Ground.phase }, { on := 8, ground := Go.Ground.phase }, { on := 9, ground := Go.Ground.phase }, { on := 10, ground := Go.Ground.phase }, { on := 11, ground := Go.Ground.phase }, { on := 12, ground := Go.Ground.phase }, { on := 13, ground := Go.Ground.phase }, { on := 14, ground := Go.Ground.phase }, { on := 15, ground := Go.Ground.phase }, { on := 16, ground := Go.Ground.phase }, { on := 17, ground := Go.Ground.phase }, { on := 18, ground := Go.Ground.phase }, { on := 19, ground := Go.Ground.phase }, { on := 20, ground := Go.Ground.phase }, { on := 21, ground := Go.Ground.phase }], guard := none }) (v := ?v22) rfl (by kernel_rfl) (by kernel_rfl) (by kernel_rfl) (fun _ _ _ h => h) (Or.inl ⟨by rfl, ?hy22⟩) (by assumption) ?_
        case hy22 => (intro w hSw; (try dsimp only at hSw); go_simp; try with_reducible rfl)
        try simp only [Act.put, List.setIfInBounds_toArray, List.set_cons_zero, List.set_cons_succ]
        refine wpAnyH_ready (rs := [23]) (by kernel_rfl) (by simp) ?_
        refine (AllReadyH.cons (i := 23) (o := { dst := none, op := Go.Op.store 37 (Go.Operand.tmp 37) (Go.Operand.tmp 35), type := 0, pos := "zsortanyfunc.go:331", after := #[{ on := 22, ground := Go.Ground.data }, { on := 19, ground := Go.Ground.data }, { on := 21, ground := Go.Ground.chain }, { on := 0, ground := Go.Ground.phase }, { on := 1, ground := Go.Ground.phase }, { on := 2, ground := Go.Ground.phase }, { on := 3, ground := Go.Ground.phase }, { on := 4, ground := Go.Ground.phase }, { on := 5, ground := Go.Ground.phase }, { on := 6, ground := Go.Ground.phase }, { on := 7, ground := Go.Ground.phase }, { on := 8, ground := Go.Ground.phase }, { on := 9, ground := Go.Ground.phase }, { on := 10, ground := Go.Ground.phase }, { on := 11, ground := Go.Ground.phase }, { on := 12, ground := Go.Ground.phase }, { on := 13, ground := Go.Ground.phase }, { on := 14, ground := Go.Ground.phase }, { on := 15, ground := Go.Ground.phase }, { on := 16, ground := Go.Ground.phase }, { on := 17, ground := Go.Ground.phase }, { on := 18, ground := Go.Ground.phase }, { on := 19, ground := Go.Ground.phase }, { on := 20, ground := Go.Ground.phase }, { on := 21, ground := Go.Ground.phase }], guard := none }) rfl (fun K' hK' => ?_) AllReadyH.nil)
        refine step_store_en rfl _ _ rfl rfl rfl hA1 hqn (sl_grown hu1 hgA) hxs hxc ?_
        intro wB hA2 hgB
        refine hK'.out _ _ trivial (fun hHeld => ?_)
        clear hK' K'
        try simp only [Act.put, List.setIfInBounds_toArray, List.set_cons_zero, List.set_cons_succ]
        refine wpAnyH_done (by kernel_rfl) ?_ _
        rw [hres.out] at hA2
        go_wp2_with fail
        exact ⟨⟨k + 1, hlt, by go_num, grown_trans hgd (grown_trans hgA hgB), hA2⟩, by simp [intOf]; omega⟩
    · have hkN : k = N := by omega
      subst hkN
      have e1 : swpL A B k = B := by unfold swpL; rw [List.take_of_length_le (by have := HN.out; omega), List.drop_eq_nil_of_le (by have := HN.out; omega), List.append_nil]
      have e2 : swpL B A k = A := by unfold swpL; rw [List.take_of_length_le (by have := HN.out; omega), List.drop_eq_nil_of_le (by have := HN.out; omega), List.append_nil]
      rw [e1, e2] at hA
      have HAA := Lib.hid hA
      clear hA e1 e2
      go_wp2_with fail
      go_end0
      exact ⟨rfl, HAA.out, hgr⟩
end Go.Proofs.YtonadloonidmjaaDoor
namespace Go.Proofs.YtonadloonidmjaaDoor
open Go.RowKit
open Pl

set_option maxRecDepth 100000 in
set_option maxHeartbeats 16000000 in
theorem rotate_any {g base n cap a m b : Nat} {w : World} {P X Y S : List En} (h : Acc tEn 37 w base (.slice (some ⟨g, 0, none⟩) n cap) (P ++ (X ++ (Y ++ S)))) (ha : a = P.length) (hm : m = P.length + X.length) (hb : b = P.length + X.length + Y.length) (hX : 0 < X.length) (hY : 0 < Y.length) (hn : n ≤ 1000000) :
    Calls Tryd.prog 90 #[.slice (some ⟨g, 0, none⟩) n cap, .int .i64 a, .int .i64 m, .int .i64 b, .func (.func 32) #[] #[]] w (RowR g base n cap w (P ++ (Y ++ (X ++ S)))) := by
  have hlen : n = P.length + X.length + Y.length + S.length := by
    obtain ⟨_, _, e1, _, _⟩ := h.form
    injection e1 with _ e1 _
    rw [e1]; simp; omega
  obtain ⟨i0, hi0⟩ : ∃ i0, i0 = X.length := ⟨_, rfl⟩
  obtain ⟨j0, hj0⟩ : ∃ j0, j0 = Y.length := ⟨_, rfl⟩
  have hma : (m : Int) - (a : Int) = (i0 : Int) := by omega
  have hbm : (b : Int) - (m : Int) = (j0 : Int) := by omega
  have hiw : IntKind.i64.wrap (i0 : Int) = (i0 : Int) := by simp [IntKind.wrap, IntKind.bits, IntKind.signed]; omega
  have hjw : IntKind.i64.wrap (j0 : Int) = (j0 : Int) := by simp [IntKind.wrap, IntKind.bits, IntKind.signed]; omega
  have hbn : b ≤ n := by omega
  have Hi0 := Lib.hid hi0
  have Hj0 := Lib.hid hj0
  have Hm := Lib.hid hm
  have Hb := Lib.hid hb
  clear ha hm hb hlen hi0 hj0
  go_enter Tryd.func90, Tryd.ntmps90
  go_wp2_with fail
  go_loopw [10, 11] (fun i j wr => ∃ (p q : Nat) (P' X' Y' S' : List En), i = .int .i64 p ∧ j = .int .i64 q ∧ Hid (p = X'.length) ∧ Hid (q = Y'.length) ∧ 0 < p ∧ 0 < q ∧ Hid (m = P'.length + X'.length) ∧ p + q ≤ 1000000 ∧ Hid (P' ++ (Y' ++ (X' ++ S')) = P ++ (Y ++ (X ++ S))) ∧ w.grownBy wr (some g) ∧
    Acc tEn 37 wr base (.slice (some ⟨g, 0, none⟩) n cap) (P' ++ (X' ++ (Y' ++ S')))) (fun i j _ => (intOf i).toNat + (intOf j).toNat)
  case atStart => exact ⟨i0, j0, P, X, Y, S, rfl, rfl, Hi0.out, Hj0.out, by have := Hi0.out; omega, by have := Hj0.out; omega, Hm.out, by have := Hi0.out; have := Hj0.out; have := Hb.out; omega, rfl, ⟨rfl, rfl, rfl, Nat.le_refl _, fun _ _ _ => rfl⟩, h⟩
  case round =>
    obtain ⟨p, q, P', X', Y', S', rfl, rfl, hp, hq, hp0, hq0, hmP, hpq, hfin, hgr, hA⟩ := hrel
    have hmn : m ≤ n := by
      have h1 := hA.sl.form'
      have h2 := Hb.out
      have h3 := Hm.out
      omega
    obtain ⟨p', hp'⟩ : ∃ p', p' = P'.length := ⟨_, rfl⟩
    have hmp : (m : Int) - (p : Int) = (p' : Int) := by have := hmP.out; have := hp.out; omega
    have hpw : IntKind.i64.wrap (p' : Int) = (p' : Int) := by simp [IntKind.wrap, IntKind.bits, IntKind.signed]; omega
    have Hp' := Lib.hid hp'
    clear hp'
    by_cases heq : p = q
    · have hbe : ((p : Int) != (q : Int)) = false := by rw [heq]; simp
      have HS : Hid (Calls Tryd.prog 98 #[.slice (some ⟨g, 0, none⟩) n cap, .int .i64 p', .int .i64 m, .int .i64 p, .func (.func 32) #[] #[]] wr (RowR g base n cap wr (P' ++ (Y' ++ ([] ++ (X' ++ S')))))) := by
        have h1 := swapRange_any (A := X') (M := []) (B := Y') (a := p') (b := m) (w := wr) (by rw [List.nil_append]; exact hA) Hp'.out (by have := hmP.out; simp; omega) (by have := hp.out; have := hq.out; omega) hn
        rwa [← hp.out] at h1
      rw [List.nil_append, hfin.out] at HS
      clear hA heq
      go_wp2_with fail
      with_reducible refine HS.out.mono ?_
      rintro e w1 ⟨rfl, hA1, hg1⟩
      clear HS
      go_wp2_with fail
      go_end0
      exact ⟨rfl, hA1, grown_trans hgr hg1⟩
    · have hbe : ((p : Int) != (q : Int)) = true := by rw [bne_iff_ne]; omega
      by_cases hgt : q < p
      · have hgti : (q : Int) < (p : Int) := by omega
        have hl1 : (X'.take q).length = q := by rw [List.length_take]; have := hp.out; omega
        have hl2 : (X'.drop q).length = p - q := by rw [List.length_drop]; have := hp.out; omega
        have HS : Hid (Calls Tryd.prog 98 #[.slice (some ⟨g, 0, none⟩) n cap, .int .i64 p', .int .i64 m, .int .i64 q, .func (.func 32) #[] #[]] wr (RowR g base n cap wr (P' ++ (Y' ++ (X'.drop q ++ (X'.take q ++ S')))))) := by
          have h1 := swapRange_any (A := X'.take q) (M := X'.drop q) (B := Y') (a := p') (b := m) (w := wr) (by rw [← List.append_assoc (X'.take q), List.take_append_drop]; exact hA) Hp'.out (by have := hmP.out; have := hp.out; rw [hl1, hl2]; omega) (by rw [hl1]; exact hq.out) hn
          rwa [hl1] at h1
        obtain ⟨r, hr⟩ : ∃ r, r = p - q := ⟨_, rfl⟩
        have hri : (p : Int) - (q : Int) = (r : Int) := by omega
        have hrw : IntKind.i64.wrap (r : Int) = (r : Int) := by simp [IntKind.wrap, IntKind.bits, IntKind.signed]; omega
        have hr0 : 0 < r := by omega
        have hrp : r < p := by omega
        have Hr := Lib.hid hr
        have HL1 := Lib.hid hl1
        have HL2 := Lib.hid hl2
        clear hA hr hl1 hl2
        go_wp2_with fail
        with_reducible refine HS.out.mono ?_
        rintro e w1 ⟨rfl, hA1, hg1⟩
        clear HS
        go_wp2_with fail
        exact ⟨⟨r, q, P' ++ Y', X'.drop q, X'.take q, S', by go_num, rfl, by show _ = _; rw [HL2.out]; exact Hr.out, HL1.out.symm, hr0, hq0, by show _ = _; rw [List.length_append, HL2.out, hmP.out, ← hp.out, ← hq.out]; omega, by omega, by show _ = _; rw [← hfin.out, ← List.append_assoc (X'.take q), List.take_append_drop, List.append_assoc], grown_trans hgr hg1, by rw [List.append_assoc]; exact hA1⟩, by simp [intOf]; omega⟩
      · have hgti : ¬ (q : Int) < (p : Int) := by omega
        have hlt : p < q := by omega
        obtain ⟨r, hr⟩ : ∃ r, r = q - p := ⟨_, rfl⟩
        have hl1 : (Y'.take r).length = r := by rw [List.length_take]; have := hq.out; omega
        have hl2 : (Y'.drop r).length = p := by rw [List.length_drop]; have := hq.out; omega
        obtain ⟨m1, hm1⟩ : ∃ m1, m1 = m + q := ⟨_, rfl⟩
        obtain ⟨m2, hm2⟩ : ∃ m2, m2 = m + q - p := ⟨_, rfl⟩
        have hm1i : (m : Int) + (q : Int) = (m1 : Int) := by omega
        have hm2i : (m1 : Int) - (p : Int) = (m2 : Int) := by omega
        have hm1w : IntKind.i64.wrap (m1 : Int) = (m1 : Int) := by simp [IntKind.wrap, IntKind.bits, IntKind.signed]; omega
        have hm2w : IntKind.i64.wrap (m2 : Int) = (m2 : Int) := by simp [IntKind.wrap, IntKind.bits, IntKind.signed]; omega
        have HS : Hid (Calls Tryd.prog 98 #[.slice (some ⟨g, 0, none⟩) n cap, .int .i64 p', .int .i64 m2, .int .i64 p, .func (.func 32) #[] #[]] wr (RowR g base n cap wr (P' ++ (Y'.drop r ++ (Y'.take r ++ (X' ++ S')))))) := by
          have h1 := swapRange_any (A := X') (M := Y'.take r) (B := Y'.drop r) (a := p') (b := m2) (w := wr) (by rw [← List.append_assoc (Y'.take r), List.take_append_drop]; exact hA) Hp'.out (by have := hmP.out; have := hp.out; rw [hl1]; omega) (by rw [hl2]; exact hp.out.symm) hn
          rwa [← hp.out] at h1
        have hri : (q : Int) - (p : Int) = (r : Int) := by omega
        have hrw : IntKind.i64.wrap (r : Int) = (r : Int) := by simp [IntKind.wrap, IntKind.bits, IntKind.signed]; omega
        have hr0 : 0 < r := by omega
        have hrp : r < q := by omega
        have Hr := Lib.hid hr
        have HL1 := Lib.hid hl1
        have HL2 := Lib.hid hl2
        clear hA hr hl1 hl2 hm1 hm2
        go_wp2_with fail
        with_reducible refine HS.out.mono ?_
        rintro e w1 ⟨rfl, hA1, hg1⟩
        clear HS
        go_wp2_with fail
        exact ⟨⟨p, r, P', Y'.drop r, Y'.take r, X' ++ S', rfl, by go_num, HL2.out.symm, HL1.out.symm, hp0, hr0, by show _ = _; rw [HL2.out, hmP.out, ← hp.out], by omega, by show _ = _; rw [← hfin.out, ← List.append_assoc (Y'.take r), List.take_append_drop], grown_trans hgr hg1, hA1⟩, by simp [intOf]; omega⟩
end Go.Proofs.YtonadloonidmjaaDoor

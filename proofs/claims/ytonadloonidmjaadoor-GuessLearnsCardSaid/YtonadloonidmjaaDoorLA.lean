/- Several texts in one: GX, Put, GY, GZ, HA, HB, L3. Conditions: as each theorem says. -/
import Derived.Test.YtonadloonidmjaaDoorGR
import Derived.Test.YtonadloonidmjaaDoorTail
import Derived.Test.YtonadloonidmjaaDoorGM
import Derived.Test.YtonadloonidmjaaDoorH2
import Derived.Test.YtonadloonidmjaaDoorH3
import Derived.Test.YtonadloonidmjaaDoorGW
import Derived.Test.YtonadloonidmjaaDoorL1
namespace Go.Proofs.YtonadloonidmjaaDoor
open Go
open Pl

theorem insE_hit {x : Ky} : ∀ (g : List En) (lo : Nat) (y : En), (∀ j z, j < lo → g[j]? = some z → ordK (kyE z) x < 0) → g[lo]? = some y → ordK (kyE y) x = 0 → insE x g = g.set lo (y.1, y.2.1, y.2.2 + 1)
  | [], lo, y, _, hy, _ => by simp at hy
  | z :: r, 0, y, _, hy, h0 => by
    simp at hy; subst hy
    rw [insE, if_neg (by omega), if_pos h0, List.set_cons_zero]
  | z :: r, lo + 1, y, hl, hy, h0 => by
    have h1 := hl 0 z (by omega) rfl
    rw [insE, if_pos h1, List.set_cons_succ, insE_hit r lo y (fun j a hj ha => hl (j + 1) a (by omega) (by simpa using ha)) (by simpa using hy) h0]
theorem insE_mid {x : Ky} : ∀ (g : List En) (lo : Nat), lo ≤ g.length → (∀ j z, j < lo → g[j]? = some z → ordK (kyE z) x < 0) → (∀ y, g[lo]? = some y → ¬ ordK (kyE y) x < 0 ∧ ¬ ordK (kyE y) x = 0) → insE x g = g.take lo ++ (x.1, x.2, 1) :: g.drop lo
  | [], lo, h, _, _ => by
    have : lo = 0 := by simpa using h
    subst this; rfl
  | z :: r, 0, _, _, hy => by
    obtain ⟨h1, h2⟩ := hy z rfl
    rw [insE, if_neg h1, if_neg h2]; rfl
  | z :: r, lo + 1, h, hl, hy => by
    have h1 := hl 0 z (by omega) rfl
    rw [insE, if_pos h1, insE_mid r lo (by simpa using h) (fun j a hj ha => hl (j + 1) a (by omega) (by simpa using ha)) (fun y h => hy y (by simpa using h))]
    rfl
theorem insS_hit {t : ByteArray} : ∀ (o : List ByteArray) (lo : Nat), (∀ j z, j < lo → o[j]? = some z → cmpB z t < 0) → o[lo]? = some t → insS t o = o
  | [], lo, _, hy => by simp at hy
  | z :: r, 0, _, hy => by
    simp at hy; subst hy
    rw [insS, if_neg (by rw [totB.self]; omega), if_pos rfl]
  | z :: r, lo + 1, hl, hy => by
    have h1 := hl 0 z (by omega) rfl
    rw [insS, if_pos h1, insS_hit r lo (fun j a hj ha => hl (j + 1) a (by omega) (by simpa using ha)) (by simpa using hy)]
theorem insS_mid {t : ByteArray} : ∀ (o : List ByteArray) (lo : Nat), lo ≤ o.length → (∀ j z, j < lo → o[j]? = some z → cmpB z t < 0) → (∀ y, o[lo]? = some y → ¬ cmpB y t < 0 ∧ ¬ y = t) → insS t o = o.take lo ++ t :: o.drop lo
  | [], lo, h, _, _ => by
    have : lo = 0 := by simpa using h
    subst this; rfl
  | z :: r, 0, _, _, hy => by
    obtain ⟨h1, h2⟩ := hy z rfl
    rw [insS, if_neg h1, if_neg h2]; rfl
  | z :: r, lo + 1, h, hl, hy => by
    have h1 := hl 0 z (by omega) rfl
    rw [insS, if_pos h1, insS_mid r lo (by simpa using h) (fun j a hj ha => hl (j + 1) a (by omega) (by simpa using ha)) (fun y h => hy y (by simpa using h))]
    rfl

/-- One more element at the end, the elements from place i on moved up. -/
def shL {α : Type} (g : List α) (e : α) (i : Nat) : List α := (g ++ [e]).take (i + 1) ++ g.drop i
section
variable {α : Type} {g : List α} {e z : α} {i : Nat}
theorem shL_len (h : i ≤ g.length) : (shL g e i).length = g.length + 1 := by unfold shL; simp; omega
theorem shL_top : shL g e g.length = g ++ [e] := by
  unfold shL
  rw [List.take_of_length_le (by simp), List.drop_length, List.append_nil]
theorem shL_at (h : i ≤ g.length) (p : Nat) : (shL g e i)[p]? = if p ≤ i then (g ++ [e])[p]? else g[p - 1]? := by
  unfold shL
  by_cases hp : p ≤ i
  · rw [if_pos hp, List.getElem?_append_left (by simp; omega), List.getElem?_take_of_lt (by omega)]
  · rw [if_neg hp, List.getElem?_append_right (by simp; omega), List.getElem?_drop, List.length_take, List.length_append, List.length_singleton]
    congr 1; omega
theorem shL_read (h : i + 1 ≤ g.length) (hz : g[i]? = some z) : (shL g e (i + 1))[i]? = some z := by
  rw [shL_at h, if_pos (by omega), List.getElem?_append_left (by omega), hz]
theorem shL_step (h : i + 1 ≤ g.length) (hz : g[i]? = some z) : (shL g e (i + 1)).set (i + 1) z = shL g e i := by
  apply List.ext_getElem?
  intro p
  rw [List.getElem?_set, shL_at h, shL_at (by omega), shL_len h]
  by_cases hp : i + 1 = p
  · subst hp
    rw [if_pos rfl, if_pos (by omega), if_neg (by omega), Nat.add_sub_cancel, hz]
  · rw [if_neg hp]
    by_cases h2 : p ≤ i
    · rw [if_pos h2, if_pos (by omega)]
    · rw [if_neg h2, if_neg (by omega)]
theorem shL_end (h : i ≤ g.length) : (shL g e i).set i e = g.take i ++ e :: g.drop i := by
  apply List.ext_getElem?
  intro p
  rw [List.getElem?_set, shL_at h, shL_len h]
  have hl : (g.take i).length = i := by rw [List.length_take]; omega
  by_cases hp : i = p
  · subst hp
    rw [if_pos rfl, if_pos (by omega), List.getElem?_append_right (by omega), hl, Nat.sub_self]; rfl
  · rw [if_neg hp]
    by_cases h2 : p ≤ i
    · rw [if_pos h2, List.getElem?_append_left (by omega), List.getElem?_append_left (by omega), List.getElem?_take_of_lt (by omega)]
    · rw [if_neg h2, List.getElem?_append_right (by omega), hl]
      obtain ⟨m, hm⟩ : ∃ m, p - i = m + 1 := ⟨p - i - 1, by omega⟩
      rw [hm, List.getElem?_cons_succ, List.getElem?_drop]
      congr 1; omega
end
end Go.Proofs.YtonadloonidmjaaDoor
namespace Go.Proofs.YtonadloonidmjaaDoor
open Go.RowKit

theorem flatten_set {css : List (List Value)} {s : Nat} (hs : ∀ cs ∈ css, cs.length = s) : ∀ (j i : Nat) (cs : List Value) (v : Value), css[j]? = some cs → i < s → (css.set j (cs.set i v)).flatten = css.flatten.set (j * s + i) v := by
  induction css with
  | nil => intro j i cs v h; simp at h
  | cons c r ih =>
    intro j i cs v hj hi
    have hc := hs c (by simp)
    cases j with
    | zero =>
      simp at hj; subst hj
      rw [List.set_cons_zero, List.flatten_cons, List.flatten_cons, Nat.zero_mul, Nat.zero_add, List.set_append_left _ _ (by omega)]
    | succ j =>
      simp at hj
      have e : (j + 1) * s + i - c.length = j * s + i := by rw [hc, Nat.succ_mul]; omega
      rw [List.set_cons_succ, List.flatten_cons, List.flatten_cons, ih (fun cs h => hs cs (by simp [h])) j i cs v hj hi, List.set_append_right _ _ (by rw [hc, Nat.succ_mul]; omega), e]

section
variable {α : Type} {T : Ty α} {e : TypeId} {w : World} {base g n cap j i : Nat} {xs : List α} {x y : α} {u : Value}
theorem Acc.block (h : Acc T e w base (.slice (some ⟨g, 0, none⟩) n cap) xs) : ∃ cur, w.heap[g]? = some (.cells cur e (0, 0)) ∧ base ≤ g ∧ xs.length = n := by
  obtain ⟨A, c, e1, _, _⟩ := h.form
  injection e1 with _ e1 _
  obtain ⟨css, h1, _⟩ := h
  rcases h1.2 with ⟨h0, _⟩ | ⟨g', cap', cur, h0, hbg, hg, _⟩
  · cases h0
  · injection h0 with h0 _ _
    injection h0 with h0
    injection h0 with h0
    subst h0
    exact ⟨cur, hg, hbg, e1.symm⟩
theorem Acc.frozen (h : Acc T e w base (.slice (some ⟨g, 0, none⟩) n cap) xs) (k : Nat) : w.frozen? ⟨g, k, none⟩ = false := by
  obtain ⟨cur, hg, _⟩ := h.block
  exact frozen_of_cells hg
theorem Acc.put1 (h : Acc T e w base (.slice (some ⟨g, 0, none⟩) n cap) xs) (hx : xs[j]? = some x) (hi : i < T.size)
    (hy : ∀ cs, T.rep w (fun b => base ≤ b ∧ some b ≠ some g) cs x → T.rep w (fun b => base ≤ b ∧ some b ≠ some g) (cs.set i u) y) :
    Acc T e (w.setCell ⟨g, j * T.size + i, none⟩ u) base (.slice (some ⟨g, 0, none⟩) n cap) (xs.set j y) ∧ w.grownBy (w.setCell ⟨g, j * T.size + i, none⟩ u) (some g) := by
  obtain ⟨A, c, e1, _, _⟩ := h.form
  injection e1 with _ e1 _
  obtain ⟨css, h1, h2, h3⟩ := h
  have hg' : w.grownBy (w.setCell ⟨g, j * T.size + i, none⟩ u) (some g) :=
    ⟨rfl, rfl, rfl, by simp [World.setCell], fun k _ hk => heap_setCell_other w ⟨g, j * T.size + i, none⟩ k u (fun e => hk (by rw [e]))⟩
  refine ⟨?_, hg'⟩
  have hlen : ∀ cs ∈ css, cs.length = T.size := by
    intro cs hcs
    obtain ⟨j, hj⟩ := List.mem_iff_getElem?.1 hcs
    have hjl : j < xs.length := by have := (List.getElem?_eq_some_iff.1 hj).1; omega
    exact T.len (h3 j _ cs (List.getElem?_eq_getElem hjl) hj)
  have hjl := (List.getElem?_eq_some_iff.1 hx).1
  have hcs := List.getElem?_eq_getElem (l := css) (i := j) (by omega)
  have hr := hy _ (h3 j x _ hx hcs)
  rcases h1.2 with ⟨h0, _⟩ | ⟨g', cap', cur, h0, hbg, hg, hn, hc, hsz, htk⟩
  · cases h0
  · injection h0 with h0 h0n h0c
    injection h0 with h0
    injection h0 with h0
    subst h0; subst h0c
    have hfl := flatten_set hlen j i _ u hcs hi
    have keep : ∀ (cs : List Value) (z : α), T.rep w (fun b => base ≤ b ∧ some b ≠ some g) cs z → T.rep (w.setCell ⟨g, j * T.size + i, none⟩ u) (fun b => base ≤ b ∧ some b ≠ some g) cs z := fun cs z hz =>
      T.keep hz fun b hb => ⟨hb, heap_setCell_other w ⟨g, j * T.size + i, none⟩ b u (fun e => hb.2 (by rw [e]))⟩
    refine ⟨css.set j (css[j].set i u), ⟨?_, .inr ⟨g, cap, cur.setIfInBounds (j * T.size + i) u, by rw [List.length_set, e1], hbg, heap_setCell_same w g _ cur e u hg, by rw [List.length_set]; omega, hc, by simp [hsz], ?_⟩⟩, by simp [h2], ?_⟩
    · rw [hfl, List.length_set, h1.1, List.length_set]
    · rw [hfl, Array.toList_setIfInBounds, List.take_set, List.length_set, htk]
    · intro k z cs hk hck
      rw [List.getElem?_set] at hk hck
      by_cases hjk : j = k
      · subst hjk
        rw [if_pos rfl, if_pos (by omega)] at hk hck
        injection hk with hk; injection hck with hck
        subst hk; subst hck
        exact keep _ _ hr
      · rw [if_neg hjk] at hk hck
        exact keep _ _ (h3 k z cs hk hck)
end
end Go.Proofs.YtonadloonidmjaaDoor
namespace Go.Proofs.YtonadloonidmjaaDoor
open Go.RowKit
open Pl

section
variable {α : Type} {T : Ty α} {e : TypeId} {w : World} {base n cap k : Nat} {A : Option Addr} {xs : List α}
theorem Acc.addr (h : Acc T e w base (.slice A n cap) xs) (hk : k < n) : ∃ g, A = some ⟨g, 0, none⟩ ∧ base ≤ g ∧ g < w.heap.size := by
  obtain ⟨_, _, e1, _, _⟩ := h.form
  injection e1 with _ e1 _
  obtain ⟨css, h1, _⟩ := h
  rcases h1.2 with ⟨h0, _⟩ | ⟨g', cap', cur, h0, hbg, hg, _⟩
  · injection h0 with _ h0 _
    omega
  · injection h0 with h0 _ _
    exact ⟨g', h0, hbg, (Array.getElem?_eq_some_iff.1 hg).1⟩
/-- The cells of element k, and that what it leads to lies apart. -/
theorem Acc.at' {g : Nat} (h : Acc T e w base (.slice (some ⟨g, 0, none⟩) n cap) xs) (hk : k < n) :
    ∃ x cs, xs[k]? = some x ∧ T.rep w (fun b => base ≤ b ∧ some b ≠ some g) cs x ∧ ∀ i u, cs[i]? = some u → w.cell? ⟨g, k * T.size + i, none⟩ = some u := by
  obtain ⟨_, _, e1, _, _⟩ := h.form
  injection e1 with _ e1 _
  obtain ⟨css, h1, h2, h3⟩ := h
  have hlen : ∀ cs ∈ css, cs.length = T.size := by
    intro cs hcs
    obtain ⟨j, hj⟩ := List.mem_iff_getElem?.1 hcs
    have hjl : j < xs.length := by have := (List.getElem?_eq_some_iff.1 hj).1; omega
    exact T.len (h3 j _ cs (List.getElem?_eq_getElem hjl) hj)
  rcases h1.2 with ⟨h0, _⟩ | ⟨g', cap', cur, h0, hbg, hg, hn, hc, hsz, htk⟩
  · cases h0
  · injection h0 with h0 _ _
    injection h0 with h0
    injection h0 with h0
    subst h0
    have hx := List.getElem?_eq_getElem (l := xs) (i := k) (by omega)
    have hcs := List.getElem?_eq_getElem (l := css) (i := k) (by omega)
    refine ⟨_, _, hx, h3 k _ _ hx hcs, fun i u hi => ?_⟩
    have hf := flatten_at hlen k i _ u hcs hi
    rw [← htk, List.getElem?_take] at hf
    split at hf
    · rw [cell_of_row w g _ cur e (0, 0) hg]
      simpa using hf
    · cases hf
end

theorem grown_trans {a b c : World} {r : Option Nat} (h : a.grownBy b r) (k : b.grownBy c r) : a.grownBy c r :=
  ⟨k.os.trans h.os, k.tape.trans h.tape, k.output.trans h.output, Nat.le_trans h.size k.size, fun j hj hn => (k.block j (Nat.lt_of_lt_of_le hj h.size) hn).trans (h.block j hj hn)⟩
section
variable {w : World} {base n cap k g : Nat}
theorem Acc.en' {xs : List En} (h : Acc tEn 37 w base (.slice (some ⟨g, 0, none⟩) n cap) xs) (hk : k < n) :
    ∃ x u, Hid (xs[k]? = some x) ∧ x.2.1.size ≤ maxLen ∧ inI64 x.2.2 ∧ Sl tInt w (fun b => base ≤ b ∧ some b ≠ some g) u x.1 ∧ w.cell? ⟨g, k * 3, none⟩ = some u ∧ w.cell? ⟨g, k * 3 + 1, none⟩ = some (.string x.2.1) ∧ w.cell? ⟨g, k * 3 + 2, none⟩ = some (.int .i64 x.2.2) := by
  obtain ⟨x, cs, h1, h2, h3⟩ := h.at' hk
  obtain ⟨u, rfl, h4, h5, h6⟩ := en_rep h2
  exact ⟨x, u, h1, h5, h6, h4, h3 0 _ rfl, h3 1 _ rfl, h3 2 _ rfl⟩
theorem Acc.put_en {xs : List En} {x y : En} {u : Value} (h : Acc tEn 37 w base (.slice (some ⟨g, 0, none⟩) n cap) xs) (hx : xs[k]? = some x) (hu : Sl tInt w (fun b => base ≤ b ∧ some b ≠ some g) u y.1) (hs : y.2.1.size ≤ maxLen) (hc : inI64 y.2.2) :
    Acc tEn 37 (((w.setCell ⟨g, k * 3, none⟩ u).setCell ⟨g, k * 3 + 1, none⟩ (.string y.2.1)).setCell ⟨g, k * 3 + 2, none⟩ (.int .i64 y.2.2)) base (.slice (some ⟨g, 0, none⟩) n cap) (xs.set k y) ∧
      w.grownBy (((w.setCell ⟨g, k * 3, none⟩ u).setCell ⟨g, k * 3 + 1, none⟩ (.string y.2.1)).setCell ⟨g, k * 3 + 2, none⟩ (.int .i64 y.2.2)) (some g) := by
  have hkl := (List.getElem?_eq_some_iff.1 hx).1
  obtain ⟨a1, g1⟩ := h.put1 (u := u) (y := (y.1, x.2.1, x.2.2)) (i := 0) hx (by decide) fun cs hr => by
    obtain ⟨u0, rfl, _, h5, h6⟩ := en_rep hr
    exact en_mk (e := (y.1, x.2.1, x.2.2)) hu h5 h6
  obtain ⟨a2, g2⟩ := a1.put1 (j := k) (x := (y.1, x.2.1, x.2.2)) (u := .string y.2.1) (y := (y.1, y.2.1, x.2.2)) (i := 1) (by rw [List.getElem?_set, if_pos rfl, if_pos hkl]) (by decide) fun cs hr => by
    obtain ⟨u0, rfl, h4, _, h6⟩ := en_rep hr
    exact en_mk (e := (y.1, y.2.1, x.2.2)) h4 hs h6
  obtain ⟨a3, g3⟩ := a2.put1 (j := k) (x := (y.1, y.2.1, x.2.2)) (u := .int .i64 y.2.2) (y := y) (i := 2) (by rw [List.set_set, List.getElem?_set, if_pos rfl, if_pos hkl]) (by decide) fun cs hr => by
    obtain ⟨u0, rfl, h4, h5, _⟩ := en_rep hr
    exact en_mk (e := y) h4 h5 hc
  rw [List.set_set, List.set_set] at a3
  exact ⟨a3, grown_trans (grown_trans g1 g2) g3⟩
theorem Acc.put_cnt {xs : List En} {x : En} {c : Int} (h : Acc tEn 37 w base (.slice (some ⟨g, 0, none⟩) n cap) xs) (hx : xs[k]? = some x) (hc : inI64 c) :
    Acc tEn 37 (w.setCell ⟨g, k * 3 + 2, none⟩ (.int .i64 c)) base (.slice (some ⟨g, 0, none⟩) n cap) (xs.set k (x.1, x.2.1, c)) ∧ w.grownBy (w.setCell ⟨g, k * 3 + 2, none⟩ (.int .i64 c)) (some g) :=
  h.put1 (u := .int .i64 c) (y := (x.1, x.2.1, c)) (i := 2) hx (by decide) fun cs hr => by
    obtain ⟨u0, rfl, h4, h5, _⟩ := en_rep hr
    exact en_mk (e := (x.1, x.2.1, c)) h4 h5 hc
theorem Acc.str' {xs : List ByteArray} (h : Acc tStr 9 w base (.slice (some ⟨g, 0, none⟩) n cap) xs) (hk : k < n) : ∃ x, Hid (xs[k]? = some x) ∧ x.size ≤ maxLen ∧ w.cell? ⟨g, k, none⟩ = some (.string x) := by
  obtain ⟨x, cs, h1, ⟨rfl, h2⟩, h3⟩ := h.at' hk
  have := h3 0 _ rfl
  have e : k * tStr.size + 0 = k := by simp [tStr]
  rw [e] at this
  exact ⟨x, h1, h2, this⟩
theorem Acc.put_str {xs : List ByteArray} {x y : ByteArray} (h : Acc tStr 9 w base (.slice (some ⟨g, 0, none⟩) n cap) xs) (hx : xs[k]? = some x) (hs : y.size ≤ maxLen) :
    Acc tStr 9 (w.setCell ⟨g, k, none⟩ (.string y)) base (.slice (some ⟨g, 0, none⟩) n cap) (xs.set k y) ∧ w.grownBy (w.setCell ⟨g, k, none⟩ (.string y)) (some g) := by
  have h1 := h.put1 (u := .string y) (y := y) (i := 0) hx (by decide) fun cs hr => by
    obtain ⟨rfl, _⟩ := hr
    exact ⟨rfl, hs⟩
  have e : k * tStr.size + 0 = k := by simp [tStr]
  rw [e] at h1
  exact h1
end
end Go.Proofs.YtonadloonidmjaaDoor
namespace Go.Proofs.YtonadloonidmjaaDoor
open Go.RowKit
open Pl

theorem below_grown {w w' : World} {base g : Nat} (h : w.grownBy w' (some g)) (hb : base ≤ g) (hw : base ≤ w.heap.size) : Below base w w' :=
  ⟨h.os, h.tape, h.output, h.size, fun k hk => h.block k (by omega) (fun e => by injection e with e; omega)⟩
theorem below_low {a b : World} {n m : Nat} (h : Below n a b) (hm : m ≤ n) : Below m a b := ⟨h.os, h.tape, h.output, h.size, fun k hk => h.block k (by omega)⟩
theorem mid_quo {p q : Nat} : ((p : Int) + (q : Int)).tdiv 2 = (((p + q) / 2 : Nat) : Int) := by
  rw [← Int.natCast_add]
  exact Int.ofNat_tdiv _ _ |>.symm
def CountR (base : Nat) (g : List En) (x : Ky) (w : World) (e : Ending) (w' : World) : Prop := ∃ v', e = .returned v' ∧ Below base w w' ∧ Acc tEn 37 w' base v' (insE x g)
set_option linter.unusedSimpArgs false in
set_option maxRecDepth 100000 in
set_option maxHeartbeats 16000000 in
theorem count_any {v u : Value} {g : List En} {x : List Int} {t : ByteArray} {w : World} {base : Nat} (h : Acc tEn 37 w base v g) (hx : Rd tInt w u x) (hs : SK g) (hxl : x.length ≤ 1000000) (ht : t.size ≤ maxLen) (hgl : g.length ≤ 1000000)
    (hcn : ∀ e ∈ g, 0 ≤ e.2.2 ∧ e.2.2 ≤ 1000000) (hb : base ≤ w.heap.size) : Calls Tryd.prog 38 #[v, u, .string t] w (CountR base g (x, t) w) := by
  obtain ⟨i0, hi, hz0, hz1, hz2⟩ := info_parts infoI
  obtain ⟨j0, hj, hy0, hy1, hy2⟩ := info_parts infoE
  obtain ⟨A, n, c, rfl, hc1, hc2, hn⟩ := h.sl.form'
  obtain ⟨A', n', c', rfl, _, _, hn'⟩ := hx.form'
  have hE : Acc tInt 3 (w.alloc (.cells #[] 3)) w.heap.size (.slice (some ⟨w.heap.size, 0, none⟩) 0 0) [] := Acc.made (Nat.le_refl _) (at_new rfl) (Nat.zero_le _) rfl
  have ht' : t.size ≤ 9223372036854775807 := by simpa [maxLen] using ht
  have hn1 : n ≤ 1000000 := by have := hn.out; omega
  go_enter Tryd.func38, Tryd.ntmps38
  go_wp2_with (at_builtin; refine wpList_app_sl rfl _ _ rfl Tryd.underlying25 hi hz0 hz1 hz2 rfl rfl hE rfl (hx.alloc _) int_free (by simp [maxLen]; omega) (by simp; omega) (by rw [sz_alloc]; omega) ?_; intro v2 w2 hA2 hg2 hat2; obtain ⟨P2, m2, c2, rfl, _, _, _⟩ := hA2.sl.form')
  have hb2 : Bw w w2 := Acc.bw (bw_refl_al w _) hg2 (fun g e => by rw [own_sl e]; exact Nat.le_refl _) (Nat.le_refl _)
  rw [List.nil_append] at hA2
  have hx2 : Sl tInt w2 (Hi w.heap.size) (.slice P2 m2 c2) x := hA2.hi
  obtain ⟨bx, hbx⟩ : ∃ bx, bx = w2.heap.size := ⟨_, rfl⟩
  obtain ⟨W1, hW1⟩ : ∃ W1, W1 = w2.alloc (.cells #[.slice P2 m2 c2, .string t, .int .i64 1] 37) := ⟨_, rfl⟩
  have rowB : W1.heap[w2.heap.size]? = some (.cells #[.slice P2 m2 c2, .string t, .int .i64 1] 37 (0, 0)) := by rw [hW1]; exact at_new rfl
  have hb1 : Bw w W1 := by rw [hW1]; exact bw_al hb2 _
  have hx1 : Sl tInt W1 (fun b => w.heap.size ≤ b ∧ b < bx) (.slice P2 m2 c2) x := by rw [hW1]; exact hx2.lt.keep fun b hb => ⟨⟨hb.1, by rw [hbx]; exact hb.2⟩, at_old_eq hb.2⟩
  have hs1 : W1.heap.size = w2.heap.size + 1 := by rw [hW1]; exact sz_alloc _ _
  simp only [← hW1, ← hbx]
  rw [← hbx] at rowB hs1
  have hsb := hb2.size
  have hbw : w.heap.size ≤ bx := by omega
  have hown := h.own
  have h1 := h.after hb1
  have HX := Lib.hid (fun (W : World) (kk : Bw W1 W) => (Sl.rd (hx1.keep fun b hb => ⟨hb, kk.block b (by have := hb.2; omega)⟩) : Rd tInt W (.slice P2 m2 c2) x))
  clear hW1 hA2 hg2 hat2 hE hx2 hx hb2 hsb hbx
  go_loopw [8, 9] (fun i j wr => ∃ p q : Nat, p ≤ q ∧ q ≤ n ∧ i = .int .i64 p ∧ j = .int .i64 q ∧ Bw W1 wr ∧ Hid (∀ j z, j < p → g[j]? = some z → ordK (kyE z) (x, t) < 0) ∧ Hid (∀ j z, q ≤ j → g[j]? = some z → 0 ≤ ordK (kyE z) (x, t))) (fun i j _ => (intOf j).toNat - (intOf i).toNat)
  case atStart => exact ⟨0, n, Nat.zero_le _, Nat.le_refl _, rfl, rfl, Below.refl _ _, fun j y hj => absurd hj (by omega), fun j y hj hy => absurd (List.getElem?_eq_some_iff.1 hy).1 (by have := hn.out; omega)⟩
  case round =>
    obtain ⟨p, q, hpq, hq, rfl, rfl, hd, hlo, hhi⟩ := hrel
    by_cases hlt : p < q
    · obtain ⟨m, hme⟩ : ∃ m, (p + q) / 2 = m := ⟨_, rfl⟩
      have hmid : ((p : Int) + (q : Int)).tdiv 2 = (m : Int) := by rw [mid_quo, hme]
      have hm1 : p ≤ m := by omega
      have hm2 : m < q := by omega
      clear hme
      obtain ⟨gA, rfl, hgA1, hgA2⟩ := h1.addr (k := m) (by omega)
      have hA := h1.after hd
      obtain ⟨y, u1, hy, hys, hyc, hu, e0, e1, e2⟩ := hA.en' (k := m) (by omega)
      obtain ⟨A1, n1, k1, rfl, _, _, _⟩ := hu.form'
      have HO := Lib.hid (fun (W : World) (kk : Bw wr W) => order_any (a := y) (b := (x, t, 1)) (hu.rd.after kk) (HX.out _ (hd.then kk)) (by simpa [maxLen] using hys) ht')
      have rB := row_bw hd rowB
      have K0 : ∀ W, Bw wr W → (W.cell? ⟨gA, m * 3, none⟩ = some (.slice A1 n1 k1) ∧ W.cell? ⟨gA, m * 3 + 1, none⟩ = some (.string y.2.1) ∧ W.cell? ⟨gA, m * 3 + 2, none⟩ = some (.int .i64 y.2.2) ∧ W.cell? ⟨bx, 0, none⟩ = some (.slice P2 m2 c2) ∧ W.cell? ⟨bx, 1, none⟩ = some (.string t) ∧ W.cell? ⟨bx, 2, none⟩ = some (.int .i64 1)) := fun W kk =>
        ⟨bw_cell kk e0, bw_cell kk e1, bw_cell kk e2, row3_0 (row_bw kk rB), row3_1 (row_bw kk rB), row3_2 (row_bw kk rB)⟩
      have hL : Hid (ordK (kyE y) (x, t) < 0 → ∀ j z, j < m + 1 → g[j]? = some z → ordK (kyE z) (x, t) < 0) := fun hz j z hj hgz => by
        rcases Nat.lt_or_eq_of_le (Nat.le_of_lt_succ hj) with h2 | rfl
        · exact totK.trans _ _ _ (sk_at hs h2 hgz hy.out) hz
        · rw [hy.out] at hgz; injection hgz with hgz; subst hgz; exact hz
      have hH : Hid (0 ≤ ordK (kyE y) (x, t) → ∀ j z, m ≤ j → g[j]? = some z → 0 ≤ ordK (kyE z) (x, t)) := fun hz j z hj hgz => by
        rcases Nat.lt_or_eq_of_le hj with h2 | rfl
        · apply Int.not_lt.1
          intro hn
          have := totK.trans _ _ _ (sk_at hs h2 hy.out hgz) hn
          omega
        · rw [hy.out] at hgz; injection hgz with hgz; subst hgz; exact hz
      have hmn : m < n := by omega
      have HO2 : Hid (∀ (W : World), Bw wr W → Calls Tryd.prog 57 #[.agg #[.slice A1 n1 k1, .string y.2.1, .int .i64 y.2.2], .agg #[.slice P2 m2 c2, .string t, .int .i64 1]] W fun e w' => e = .returned (.int .i64 (ordK (kyE y) (x, t))) ∧ Bw W w') := HO.out
      generalize ordK (kyE y) (x, t) = z at *
      clear e0 e1 e2 hA hu HO rB hyc
      go_wp2_with fail
      refine wp_region_held_drew (S := fun u => u.cell? ⟨gA, m * 3, none⟩ = some (.slice A1 n1 k1) ∧ u.cell? ⟨gA, m * 3 + 1, none⟩ = some (.string y.2.1) ∧ u.cell? ⟨gA, m * 3 + 2, none⟩ = some (.int .i64 y.2.2) ∧ u.cell? ⟨bx, 0, none⟩ = some (.slice P2 m2 c2) ∧ u.cell? ⟨bx, 1, none⟩ = some (.string t) ∧ u.cell? ⟨bx, 2, none⟩ = some (.int .i64 1)) (by kernel_rfl) ?_ (fun hHeld => ?_)
      · exact K0 _ (Bw.drew (Below.refl _ _))
      refine wpAnyH_take (i := 0) (oi := { dst := some 26, op := Go.Op.move (Go.Operand.tmp 0), type := 28, pos := "ref.go:55", after := #[], guard := none }) (v := ?v1) rfl (by kernel_rfl) (by kernel_rfl) (by kernel_rfl) (fun _ _ _ h => h) (Or.inl ⟨by rfl, ?hy1⟩) (by assumption) ?_
      case hy1 => (intro w hSw; (try dsimp only at hSw); go_simp; try with_reducible rfl)
      try simp only [Act.put, List.setIfInBounds_toArray, List.set_cons_zero, List.set_cons_succ]
      refine wpAnyH_take (i := 1) (oi := { dst := some 27, op := Go.Op.move (Go.Operand.tmp 10), type := 3, pos := "ref.go:55", after := #[], guard := none }) (v := ?v2) rfl (by kernel_rfl) (by kernel_rfl) (by kernel_rfl) (fun _ _ _ h => h) (Or.inl ⟨by rfl, ?hy2⟩) (by assumption) ?_
      case hy2 => (intro w hSw; (try dsimp only at hSw); go_simp; try with_reducible rfl)
      try simp only [Act.put, List.setIfInBounds_toArray, List.set_cons_zero, List.set_cons_succ]
      refine wpAnyH_take (i := 2) (oi := { dst := some 28, op := Go.Op.indexAddr 28 (Go.Operand.tmp 26) (Go.Operand.tmp 27), type := 0, pos := "ref.go:55", after := #[{ on := 0, ground := Go.Ground.data }, { on := 1, ground := Go.Ground.data }], guard := none }) (v := ?v3) rfl (by kernel_rfl) (by kernel_rfl) (by kernel_rfl) (fun _ _ _ h => h) (Or.inl ⟨by rfl, ?hy3⟩) (by assumption) ?_
      case hy3 => (intro w hSw; (try dsimp only at hSw); go_simp; try with_reducible rfl)
      try simp only [Act.put, List.setIfInBounds_toArray, List.set_cons_zero, List.set_cons_succ]
      refine wpAnyH_take (i := 3) (oi := { dst := some 29, op := Go.Op.load 37 (Go.Operand.tmp 28), type := 37, pos := "ref.go:55", after := #[{ on := 2, ground := Go.Ground.data }], guard := none }) (v := ?v4) rfl (by kernel_rfl) (by kernel_rfl) (by kernel_rfl) (fun _ _ _ h => h) (Or.inl ⟨by rfl, ?hy4⟩) (by assumption) ?_
      case hy4 => (intro w hSw; (try dsimp only at hSw); go_simp; try with_reducible rfl)
      try simp only [Act.put, List.setIfInBounds_toArray, List.set_cons_zero, List.set_cons_succ]
      refine wpAnyH_take (i := 4) (oi := { dst := some 30, op := Go.Op.load 37 (Go.Operand.tmp 7), type := 37, pos := "ref.go:55", after := #[], guard := none }) (v := ?v5) rfl (by kernel_rfl) (by kernel_rfl) (by kernel_rfl) (fun _ _ _ h => h) (Or.inl ⟨by rfl, ?hy5⟩) (by assumption) ?_
      case hy5 => (intro w hSw; (try dsimp only at hSw); go_simp; try with_reducible rfl)
      try simp only [Act.put, List.setIfInBounds_toArray, List.set_cons_zero, List.set_cons_succ]
      refine wpAnyH_ready (rs := [5]) (by kernel_rfl) (by simp) ?_
      refine (AllReadyH.cons (i := 5) (o := { dst := some 31, op := Go.Op.call { callee := Go.Callee.value (Go.Operand.func 57), args := #[Go.Operand.tmp 29, Go.Operand.tmp 30], argTypes := #[37, 37] }, type := 3, pos := "ref.go:55", after := #[{ on := 3, ground := Go.Ground.data }, { on := 4, ground := Go.Ground.data }], guard := none }) rfl (fun K' hK' => ?_) AllReadyH.nil)
      go_simp
      with_reducible refine (HO2.out _ (by (repeat' first | with_reducible exact Below.refl _ _ | with_reducible assumption | with_reducible refine Bw.drew ?_ | with_reducible refine Bw.drewN ?_ _ | with_reducible refine bw_al ?_ _ | with_reducible refine Bw.then ?_ (by with_reducible assumption)))).mono ?_
      rintro e wA ⟨rfl, hbA⟩
      try dsimp only
      refine hK'.out _ _ ?_ (fun hHeld => ?_)
      · exact K0 _ (by (repeat' first | with_reducible exact Below.refl _ _ | with_reducible assumption | with_reducible refine Bw.drew ?_ | with_reducible refine Bw.drewN ?_ _ | with_reducible refine bw_al ?_ _ | with_reducible refine Bw.then ?_ (by with_reducible assumption)))
      clear hK' K'
      try simp only [Act.put, List.setIfInBounds_toArray, List.set_cons_zero, List.set_cons_succ]
      refine wpAnyH_take (i := 6) (oi := { dst := some 32, op := Go.Op.binOp Go.BinOp.lss 3 (Go.Operand.tmp 31) (Go.Operand.const (Go.Value.int Go.IntKind.i64 0)) 3, type := 4, pos := "ref.go:55", after := #[{ on := 5, ground := Go.Ground.data }], guard := none }) (v := ?v6) rfl (by kernel_rfl) (by kernel_rfl) (by kernel_rfl) (fun _ _ _ h => h) (Or.inl ⟨by rfl, ?hy6⟩) (by assumption) ?_
      case hy6 => (intro w hSw; (try dsimp only at hSw); go_simp; try with_reducible rfl)
      try simp only [Act.put, List.setIfInBounds_toArray, List.set_cons_zero, List.set_cons_succ]
      refine wpAnyH_done (by kernel_rfl) ?_ _
      by_cases hz : z < 0
      · have hzd := decide_eq_true hz
        go_wp2_with fail
        exact ⟨⟨m + 1, q, by omega, hq, by go_num, rfl, hd.then (by (repeat' first | with_reducible exact Below.refl _ _ | with_reducible assumption | with_reducible refine Bw.drew ?_ | with_reducible refine Bw.drewN ?_ _ | with_reducible refine bw_al ?_ _ | with_reducible refine Bw.then ?_ (by with_reducible assumption))), hL.out hz, hhi⟩, by simp [intOf]; omega⟩
      · have hzd := decide_eq_false hz
        go_wp2_with fail
        exact ⟨⟨p, m, by omega, by omega, rfl, rfl, hd.then (by (repeat' first | with_reducible exact Below.refl _ _ | with_reducible assumption | with_reducible refine Bw.drew ?_ | with_reducible refine Bw.drewN ?_ _ | with_reducible refine bw_al ?_ _ | with_reducible refine Bw.then ?_ (by with_reducible assumption))), hlo, hH.out (by omega)⟩, by simp [intOf]; omega⟩
    · have hpq' : p = q := by omega
      subst hpq'
      by_cases hpn : p < n
      · obtain ⟨gA, rfl, hgA1, hgA2⟩ := h1.addr (k := p) hpn
        have hA := h1.after hd
        obtain ⟨y, u1, hy, hys, hyc, hu, e0, e1, e2⟩ := hA.en' (k := p) hpn
        obtain ⟨A1, n1, k1, rfl, _, _, _⟩ := hu.form'
        have HO := Lib.hid (fun (W : World) (kk : Bw wr W) => order_any (a := y) (b := (x, t, 1)) (hu.rd.after kk) (HX.out _ (hd.then kk)) (by simpa [maxLen] using hys) ht')
        have rB := row_bw hd rowB
        have K0 : ∀ W, Bw wr W → (W.cell? ⟨gA, p * 3, none⟩ = some (.slice A1 n1 k1) ∧ W.cell? ⟨gA, p * 3 + 1, none⟩ = some (.string y.2.1) ∧ W.cell? ⟨gA, p * 3 + 2, none⟩ = some (.int .i64 y.2.2) ∧ W.cell? ⟨bx, 0, none⟩ = some (.slice P2 m2 c2) ∧ W.cell? ⟨bx, 1, none⟩ = some (.string t) ∧ W.cell? ⟨bx, 2, none⟩ = some (.int .i64 1)) := fun W kk =>
          ⟨bw_cell kk e0, bw_cell kk e1, bw_cell kk e2, row3_0 (row_bw kk rB), row3_1 (row_bw kk rB), row3_2 (row_bw kk rB)⟩
        by_cases hz : ordK (kyE y) (x, t) = 0
        · have hzb : (ordK (kyE y) (x, t) == 0) = true := by rw [beq_iff_eq]; exact hz
          have hins := Lib.hid (insE_hit g p y hlo.out hy.out hz)
          have hcy := hcn y (List.mem_of_getElem? hy.out)
          have hwr : IntKind.i64.wrap (y.2.2 + 1) = y.2.2 + 1 := by simp [IntKind.wrap, IntKind.bits, IntKind.signed]; omega
          have HO2 : Hid (∀ (W : World), Bw wr W → Calls Tryd.prog 57 #[.agg #[.slice A1 n1 k1, .string y.2.1, .int .i64 y.2.2], .agg #[.slice P2 m2 c2, .string t, .int .i64 1]] W fun e w' => e = .returned (.int .i64 (ordK (kyE y) (x, t))) ∧ Bw W w') := HO.out
          generalize ordK (kyE y) (x, t) = z at *
          have hpni : (p : Int) < (n : Int) := by omega
          clear e0 e1 e2 hu HO rB hz hlo hhi HX h1
          go_wp2_with fail
          refine wp_region_held_drew (S := fun u => u.cell? ⟨gA, p * 3, none⟩ = some (.slice A1 n1 k1) ∧ u.cell? ⟨gA, p * 3 + 1, none⟩ = some (.string y.2.1) ∧ u.cell? ⟨gA, p * 3 + 2, none⟩ = some (.int .i64 y.2.2) ∧ u.cell? ⟨bx, 0, none⟩ = some (.slice P2 m2 c2) ∧ u.cell? ⟨bx, 1, none⟩ = some (.string t) ∧ u.cell? ⟨bx, 2, none⟩ = some (.int .i64 1)) (by kernel_rfl) ?_ (fun hHeld => ?_)
          · exact K0 _ (Bw.drew (Below.refl _ _))
          refine wpAnyH_take (i := 0) (oi := { dst := some 36, op := Go.Op.move (Go.Operand.tmp 8), type := 3, pos := "ref.go:61", after := #[], guard := none }) (v := ?v13) rfl (by kernel_rfl) (by kernel_rfl) (by kernel_rfl) (fun _ _ _ h => h) (Or.inl ⟨by rfl, ?hy13⟩) (by assumption) ?_
          case hy13 => (intro w hSw; (try dsimp only at hSw); go_simp; try with_reducible rfl)
          try simp only [Act.put, List.setIfInBounds_toArray, List.set_cons_zero, List.set_cons_succ]
          refine wpAnyH_take (i := 1) (oi := { dst := some 37, op := Go.Op.move (Go.Operand.tmp 0), type := 28, pos := "ref.go:61", after := #[], guard := none }) (v := ?v14) rfl (by kernel_rfl) (by kernel_rfl) (by kernel_rfl) (fun _ _ _ h => h) (Or.inl ⟨by rfl, ?hy14⟩) (by assumption) ?_
          case hy14 => (intro w hSw; (try dsimp only at hSw); go_simp; try with_reducible rfl)
          try simp only [Act.put, List.setIfInBounds_toArray, List.set_cons_zero, List.set_cons_succ]
          refine wpAnyH_take (i := 2) (oi := { dst := some 38, op := Go.Op.call { callee := Go.Callee.builtin Go.Builtin.len, args := #[Go.Operand.tmp 37], argTypes := #[28] }, type := 3, pos := "ref.go:61", after := #[{ on := 1, ground := Go.Ground.data }], guard := none }) (v := ?v15) rfl (by kernel_rfl) (by kernel_rfl) (by kernel_rfl) (fun _ _ _ h => h) (Or.inl ⟨by rfl, ?hy15⟩) (by assumption) ?_
          case hy15 => (intro w hSw; (try dsimp only at hSw); go_simp; try with_reducible rfl)
          try simp only [Act.put, List.setIfInBounds_toArray, List.set_cons_zero, List.set_cons_succ]
          refine wpAnyH_take (i := 3) (oi := { dst := some 39, op := Go.Op.binOp Go.BinOp.lss 3 (Go.Operand.tmp 36) (Go.Operand.tmp 38) 3, type := 4, pos := "ref.go:61", after := #[{ on := 0, ground := Go.Ground.data }, { on := 2, ground := Go.Ground.data }], guard := none }) (v := Value.bool true) rfl (by kernel_rfl) (by kernel_rfl) (by kernel_rfl) (fun _ _ _ h => h) (Or.inl ⟨by rfl, ?hy16⟩) (by assumption) ?_
          case hy16 => (intro w hSw; (try dsimp only at hSw); go_simp)
          try simp only [Act.put, List.setIfInBounds_toArray, List.set_cons_zero, List.set_cons_succ]
          refine wpAnyH_take (i := 4) (oi := { dst := some 40, op := Go.Op.move (Go.Operand.tmp 39), type := 4, pos := "ref.go:61", after := #[{ on := 3, ground := Go.Ground.data }], guard := none }) (v := ?v17) rfl (by kernel_rfl) (by kernel_rfl) (by kernel_rfl) (fun _ _ _ h => h) (Or.inl ⟨by rfl, ?hy17⟩) (by assumption) ?_
          case hy17 => (intro w hSw; (try dsimp only at hSw); go_simp; try with_reducible rfl)
          try simp only [Act.put, List.setIfInBounds_toArray, List.set_cons_zero, List.set_cons_succ]
          refine wpAnyH_take (i := 5) (oi := { dst := some 41, op := Go.Op.move (Go.Operand.tmp 0), type := 28, pos := "ref.go:61", after := #[{ on := 4, ground := Go.Ground.guard }], guard := some (4, true) }) (v := ?v18) rfl (by kernel_rfl) (by kernel_rfl) (by kernel_rfl) (fun _ _ _ h => h) (Or.inl ⟨by rfl, ?hy18⟩) (by assumption) ?_
          case hy18 => (intro w hSw; (try dsimp only at hSw); go_simp; try with_reducible rfl)
          try simp only [Act.put, List.setIfInBounds_toArray, List.set_cons_zero, List.set_cons_succ]
          refine wpAnyH_take (i := 6) (oi := { dst := some 42, op := Go.Op.move (Go.Operand.tmp 8), type := 3, pos := "ref.go:61", after := #[{ on := 4, ground := Go.Ground.guard }], guard := some (4, true) }) (v := ?v19) rfl (by kernel_rfl) (by kernel_rfl) (by kernel_rfl) (fun _ _ _ h => h) (Or.inl ⟨by rfl, ?hy19⟩) (by assumption) ?_
          case hy19 => (intro w hSw; (try dsimp only at hSw); go_simp; try with_reducible rfl)
          try simp only [Act.put, List.setIfInBounds_toArray, List.set_cons_zero, List.set_cons_succ]
          refine wpAnyH_take (i := 7) (oi := { dst := some 43, op := Go.Op.indexAddr 28 (Go.Operand.tmp 41) (Go.Operand.tmp 42), type := 0, pos := "ref.go:61", after := #[{ on := 5, ground := Go.Ground.data }, { on := 6, ground := Go.Ground.data }, { on := 4, ground := Go.Ground.guard }], guard := some (4, true) }) (v := ?v20) rfl (by kernel_rfl) (by kernel_rfl) (by kernel_rfl) (fun _ _ _ h => h) (Or.inl ⟨by rfl, ?hy20⟩) (by assumption) ?_
          case hy20 => (intro w hSw; (try dsimp only at hSw); go_simp; try with_reducible rfl)
          try simp only [Act.put, List.setIfInBounds_toArray, List.set_cons_zero, List.set_cons_succ]
          refine wpAnyH_take (i := 8) (oi := { dst := some 44, op := Go.Op.load 37 (Go.Operand.tmp 43), type := 37, pos := "ref.go:61", after := #[{ on := 7, ground := Go.Ground.data }, { on := 4, ground := Go.Ground.guard }], guard := some (4, true) }) (v := ?v21) rfl (by kernel_rfl) (by kernel_rfl) (by kernel_rfl) (fun _ _ _ h => h) (Or.inl ⟨by rfl, ?hy21⟩) (by assumption) ?_
          case hy21 => (intro w hSw; (try dsimp only at hSw); go_simp; try with_reducible rfl)
          try simp only [Act.put, List.setIfInBounds_toArray, List.set_cons_zero, List.set_cons_succ]
          refine wpAnyH_take (i := 9) (oi := { dst := some 45, op := Go.Op.load 37 (Go.Operand.tmp 7), type := 37, pos := "ref.go:61", after := #[{ on := 4, ground := Go.Ground.guard }], guard := some (4, true) }) (v := ?v22) rfl (by kernel_rfl) (by kernel_rfl) (by kernel_rfl) (fun _ _ _ h => h) (Or.inl ⟨by rfl, ?hy22⟩) (by assumption) ?_
          case hy22 => (intro w hSw; (try dsimp only at hSw); go_simp; try with_reducible rfl)
          try simp only [Act.put, List.setIfInBounds_toArray, List.set_cons_zero, List.set_cons_succ]
          refine wpAnyH_ready (rs := [10]) (by kernel_rfl) (by simp) ?_
          refine (AllReadyH.cons (i := 10) (o := { dst := some 46, op := Go.Op.call { callee := Go.Callee.value (Go.Operand.func 57), args := #[Go.Operand.tmp 44, Go.Operand.tmp 45], argTypes := #[37, 37] }, type := 3, pos := "ref.go:61", after := #[{ on := 8, ground := Go.Ground.data }, { on := 9, ground := Go.Ground.data }, { on := 4, ground := Go.Ground.chain }, { on := 4, ground := Go.Ground.guard }], guard := some (4, true) }) rfl (fun K' hK' => ?_) AllReadyH.nil)
          go_simp
          with_reducible refine (HO2.out _ (by (repeat' first | with_reducible exact Below.refl _ _ | with_reducible assumption | with_reducible refine Bw.drew ?_ | with_reducible refine Bw.drewN ?_ _ | with_reducible refine bw_al ?_ _ | with_reducible refine Bw.then ?_ (by with_reducible assumption)))).mono ?_
          rintro e wA ⟨rfl, hbA⟩
          try dsimp only
          refine hK'.out _ _ ?_ (fun hHeld => ?_)
          · exact K0 _ (by (repeat' first | with_reducible exact Below.refl _ _ | with_reducible assumption | with_reducible refine Bw.drew ?_ | with_reducible refine Bw.drewN ?_ _ | with_reducible refine bw_al ?_ _ | with_reducible refine Bw.then ?_ (by with_reducible assumption)))
          clear hK' K'
          try simp only [Act.put, List.setIfInBounds_toArray, List.set_cons_zero, List.set_cons_succ]
          refine wpAnyH_take (i := 11) (oi := { dst := some 47, op := Go.Op.binOp Go.BinOp.eql 3 (Go.Operand.tmp 46) (Go.Operand.const (Go.Value.int Go.IntKind.i64 0)) 3, type := 4, pos := "ref.go:61", after := #[{ on := 10, ground := Go.Ground.data }, { on := 4, ground := Go.Ground.guard }], guard := some (4, true) }) (v := Value.bool true) rfl (by kernel_rfl) (by kernel_rfl) (by kernel_rfl) (fun _ _ _ h => h) (Or.inl ⟨by rfl, ?hy23⟩) (by assumption) ?_
          case hy23 => (intro w hSw; (try dsimp only at hSw); go_simp)
          try simp only [Act.put, List.setIfInBounds_toArray, List.set_cons_zero, List.set_cons_succ]
          refine wpAnyH_take (i := 12) (oi := { dst := some 48, op := Go.Op.pick (Go.Operand.tmp 40) (Go.Operand.tmp 47) (Go.Operand.const (Go.Value.bool false)), type := 4, pos := "ref.go:61", after := #[{ on := 4, ground := Go.Ground.data }, { on := 11, ground := Go.Ground.data }], guard := none }) (v := ?v24) rfl (by kernel_rfl) (by kernel_rfl) (by kernel_rfl) (fun _ _ _ h => h) (Or.inl ⟨by rfl, ?hy24⟩) (by assumption) ?_
          case hy24 => (intro w hSw; (try dsimp only at hSw); go_simp; try with_reducible rfl)
          try simp only [Act.put, List.setIfInBounds_toArray, List.set_cons_zero, List.set_cons_succ]
          refine wpAnyH_done (by kernel_rfl) ?_ _
          have hT0 : Bw wr wA := (by (repeat' first | with_reducible exact Below.refl _ _ | with_reducible assumption | with_reducible refine Bw.drew ?_ | with_reducible refine Bw.drewN ?_ _ | with_reducible refine bw_al ?_ _ | with_reducible refine Bw.then ?_ (by with_reducible assumption)))
          obtain ⟨e0, e1, e2, _, _, _⟩ := K0 _ hT0
          have hAA := hA.after hT0
          have fz := hAA.frozen (p * 3 + 2)
          have HP := Lib.hid (hAA.put_cnt (k := p) (c := y.2.2 + 1) hy.out (by unfold inI64; omega))
          have hbg : Below base w wA := below_low (hb1.then (hd.then hT0)) hb
          clear hAA hA K0 HO2
          go_wp2_with fail
          go_ret
          have HP := HP.out
          rw [← hins.out] at HP
          exact ⟨_, rfl, ⟨HP.2.os.trans hbg.os, HP.2.tape.trans hbg.tape, HP.2.output.trans hbg.output, Nat.le_trans hbg.size HP.2.size, fun i hi => (HP.2.block i (by have := hbg.size; omega) (fun e => by injection e with e; omega)).trans (hbg.block i hi)⟩, HP.1⟩
        · have hzb : (ordK (kyE y) (x, t) == 0) = false := by rw [beq_eq_false_iff_ne]; exact hz
          have hins : insE (x, t) g = g.take p ++ (x, t, 1) :: g.drop p := insE_mid g p (by have := hn.out; omega) hlo.out fun z hgz => by
            rw [hy.out] at hgz; injection hgz with hgz; subst hgz
            exact ⟨by have := hhi.out p y (Nat.le_refl _) hy.out; omega, hz⟩
          have HO2 : Hid (∀ (W : World), Bw wr W → Calls Tryd.prog 57 #[.agg #[.slice A1 n1 k1, .string y.2.1, .int .i64 y.2.2], .agg #[.slice P2 m2 c2, .string t, .int .i64 1]] W fun e w' => e = .returned (.int .i64 (ordK (kyE y) (x, t))) ∧ Bw W w') := HO.out
          generalize ordK (kyE y) (x, t) = z at *
          have hpni : (p : Int) < (n : Int) := by omega
          have HINS := Lib.hid hins
          clear e0 e1 e2 hu HO rB hz hA hins
          go_wp2_with fail
          refine wp_region_held_drew (S := fun u => u.cell? ⟨gA, p * 3, none⟩ = some (.slice A1 n1 k1) ∧ u.cell? ⟨gA, p * 3 + 1, none⟩ = some (.string y.2.1) ∧ u.cell? ⟨gA, p * 3 + 2, none⟩ = some (.int .i64 y.2.2) ∧ u.cell? ⟨bx, 0, none⟩ = some (.slice P2 m2 c2) ∧ u.cell? ⟨bx, 1, none⟩ = some (.string t) ∧ u.cell? ⟨bx, 2, none⟩ = some (.int .i64 1)) (by kernel_rfl) ?_ (fun hHeld => ?_)
          · exact K0 _ (Bw.drew (Below.refl _ _))
          refine wpAnyH_take (i := 0) (oi := { dst := some 36, op := Go.Op.move (Go.Operand.tmp 8), type := 3, pos := "ref.go:61", after := #[], guard := none }) (v := ?v25) rfl (by kernel_rfl) (by kernel_rfl) (by kernel_rfl) (fun _ _ _ h => h) (Or.inl ⟨by rfl, ?hy25⟩) (by assumption) ?_
          case hy25 => (intro w hSw; (try dsimp only at hSw); go_simp; try with_reducible rfl)
          try simp only [Act.put, List.setIfInBounds_toArray, List.set_cons_zero, List.set_cons_succ]
          refine wpAnyH_take (i := 1) (oi := { dst := some 37, op := Go.Op.move (Go.Operand.tmp 0), type := 28, pos := "ref.go:61", after := #[], guard := none }) (v := ?v26) rfl (by kernel_rfl) (by kernel_rfl) (by kernel_rfl) (fun _ _ _ h => h) (Or.inl ⟨by rfl, ?hy26⟩) (by assumption) ?_
          case hy26 => (intro w hSw; (try dsimp only at hSw); go_simp; try with_reducible rfl)
          try simp only [Act.put, List.setIfInBounds_toArray, List.set_cons_zero, List.set_cons_succ]
          refine wpAnyH_take (i := 2) (oi := { dst := some 38, op := Go.Op.call { callee := Go.Callee.builtin Go.Builtin.len, args := #[Go.Operand.tmp 37], argTypes := #[28] }, type := 3, pos := "ref.go:61", after := #[{ on := 1, ground := Go.Ground.data }], guard := none }) (v := ?v27) rfl (by kernel_rfl) (by kernel_rfl) (by kernel_rfl) (fun _ _ _ h => h) (Or.inl ⟨by rfl, ?hy27⟩) (by assumption) ?_
          case hy27 => (intro w hSw; (try dsimp only at hSw); go_simp; try with_reducible rfl)
          try simp only [Act.put, List.setIfInBounds_toArray, List.set_cons_zero, List.set_cons_succ]
          refine wpAnyH_take (i := 3) (oi := { dst := some 39, op := Go.Op.binOp Go.BinOp.lss 3 (Go.Operand.tmp 36) (Go.Operand.tmp 38) 3, type := 4, pos := "ref.go:61", after := #[{ on := 0, ground := Go.Ground.data }, { on := 2, ground := Go.Ground.data }], guard := none }) (v := Value.bool true) rfl (by kernel_rfl) (by kernel_rfl) (by kernel_rfl) (fun _ _ _ h => h) (Or.inl ⟨by rfl, ?hy28⟩) (by assumption) ?_
          case hy28 => (intro w hSw; (try dsimp only at hSw); go_simp)
          try simp only [Act.put, List.setIfInBounds_toArray, List.set_cons_zero, List.set_cons_succ]
          refine wpAnyH_take (i := 4) (oi := { dst := some 40, op := Go.Op.move (Go.Operand.tmp 39), type := 4, pos := "ref.go:61", after := #[{ on := 3, ground := Go.Ground.data }], guard := none }) (v := ?v29) rfl (by kernel_rfl) (by kernel_rfl) (by kernel_rfl) (fun _ _ _ h => h) (Or.inl ⟨by rfl, ?hy29⟩) (by assumption) ?_
          case hy29 => (intro w hSw; (try dsimp only at hSw); go_simp; try with_reducible rfl)
          try simp only [Act.put, List.setIfInBounds_toArray, List.set_cons_zero, List.set_cons_succ]
          refine wpAnyH_take (i := 5) (oi := { dst := some 41, op := Go.Op.move (Go.Operand.tmp 0), type := 28, pos := "ref.go:61", after := #[{ on := 4, ground := Go.Ground.guard }], guard := some (4, true) }) (v := ?v30) rfl (by kernel_rfl) (by kernel_rfl) (by kernel_rfl) (fun _ _ _ h => h) (Or.inl ⟨by rfl, ?hy30⟩) (by assumption) ?_
          case hy30 => (intro w hSw; (try dsimp only at hSw); go_simp; try with_reducible rfl)
          try simp only [Act.put, List.setIfInBounds_toArray, List.set_cons_zero, List.set_cons_succ]
          refine wpAnyH_take (i := 6) (oi := { dst := some 42, op := Go.Op.move (Go.Operand.tmp 8), type := 3, pos := "ref.go:61", after := #[{ on := 4, ground := Go.Ground.guard }], guard := some (4, true) }) (v := ?v31) rfl (by kernel_rfl) (by kernel_rfl) (by kernel_rfl) (fun _ _ _ h => h) (Or.inl ⟨by rfl, ?hy31⟩) (by assumption) ?_
          case hy31 => (intro w hSw; (try dsimp only at hSw); go_simp; try with_reducible rfl)
          try simp only [Act.put, List.setIfInBounds_toArray, List.set_cons_zero, List.set_cons_succ]
          refine wpAnyH_take (i := 7) (oi := { dst := some 43, op := Go.Op.indexAddr 28 (Go.Operand.tmp 41) (Go.Operand.tmp 42), type := 0, pos := "ref.go:61", after := #[{ on := 5, ground := Go.Ground.data }, { on := 6, ground := Go.Ground.data }, { on := 4, ground := Go.Ground.guard }], guard := some (4, true) }) (v := ?v32) rfl (by kernel_rfl) (by kernel_rfl) (by kernel_rfl) (fun _ _ _ h => h) (Or.inl ⟨by rfl, ?hy32⟩) (by assumption) ?_
          case hy32 => (intro w hSw; (try dsimp only at hSw); go_simp; try with_reducible rfl)
          try simp only [Act.put, List.setIfInBounds_toArray, List.set_cons_zero, List.set_cons_succ]
          refine wpAnyH_take (i := 8) (oi := { dst := some 44, op := Go.Op.load 37 (Go.Operand.tmp 43), type := 37, pos := "ref.go:61", after := #[{ on := 7, ground := Go.Ground.data }, { on := 4, ground := Go.Ground.guard }], guard := some (4, true) }) (v := ?v33) rfl (by kernel_rfl) (by kernel_rfl) (by kernel_rfl) (fun _ _ _ h => h) (Or.inl ⟨by rfl, ?hy33⟩) (by assumption) ?_
          case hy33 => (intro w hSw; (try dsimp only at hSw); go_simp; try with_reducible rfl)
          try simp only [Act.put, List.setIfInBounds_toArray, List.set_cons_zero, List.set_cons_succ]
          refine wpAnyH_take (i := 9) (oi := { dst := some 45, op := Go.Op.load 37 (Go.Operand.tmp 7), type := 37, pos := "ref.go:61", after := #[{ on := 4, ground := Go.Ground.guard }], guard := some (4, true) }) (v := ?v34) rfl (by kernel_rfl) (by kernel_rfl) (by kernel_rfl) (fun _ _ _ h => h) (Or.inl ⟨by rfl, ?hy34⟩) (by assumption) ?_
          case hy34 => (intro w hSw; (try dsimp only at hSw); go_simp; try with_reducible rfl)
          try simp only [Act.put, List.setIfInBounds_toArray, List.set_cons_zero, List.set_cons_succ]
          refine wpAnyH_ready (rs := [10]) (by kernel_rfl) (by simp) ?_
          refine (AllReadyH.cons (i := 10) (o := { dst := some 46, op := Go.Op.call { callee := Go.Callee.value (Go.Operand.func 57), args := #[Go.Operand.tmp 44, Go.Operand.tmp 45], argTypes := #[37, 37] }, type := 3, pos := "ref.go:61", after := #[{ on := 8, ground := Go.Ground.data }, { on := 9, ground := Go.Ground.data }, { on := 4, ground := Go.Ground.chain }, { on := 4, ground := Go.Ground.guard }], guard := some (4, true) }) rfl (fun K' hK' => ?_) AllReadyH.nil)
          go_simp
          with_reducible refine (HO2.out _ (by (repeat' first | with_reducible exact Below.refl _ _ | with_reducible assumption | with_reducible refine Bw.drew ?_ | with_reducible refine Bw.drewN ?_ _ | with_reducible refine bw_al ?_ _ | with_reducible refine Bw.then ?_ (by with_reducible assumption)))).mono ?_
          rintro e wA ⟨rfl, hbA⟩
          try dsimp only
          refine hK'.out _ _ ?_ (fun hHeld => ?_)
          · exact K0 _ (by (repeat' first | with_reducible exact Below.refl _ _ | with_reducible assumption | with_reducible refine Bw.drew ?_ | with_reducible refine Bw.drewN ?_ _ | with_reducible refine bw_al ?_ _ | with_reducible refine Bw.then ?_ (by with_reducible assumption)))
          clear hK' K'
          try simp only [Act.put, List.setIfInBounds_toArray, List.set_cons_zero, List.set_cons_succ]
          refine wpAnyH_take (i := 11) (oi := { dst := some 47, op := Go.Op.binOp Go.BinOp.eql 3 (Go.Operand.tmp 46) (Go.Operand.const (Go.Value.int Go.IntKind.i64 0)) 3, type := 4, pos := "ref.go:61", after := #[{ on := 10, ground := Go.Ground.data }, { on := 4, ground := Go.Ground.guard }], guard := some (4, true) }) (v := Value.bool false) rfl (by kernel_rfl) (by kernel_rfl) (by kernel_rfl) (fun _ _ _ h => h) (Or.inl ⟨by rfl, ?hy35⟩) (by assumption) ?_
          case hy35 => (intro w hSw; (try dsimp only at hSw); go_simp)
          try simp only [Act.put, List.setIfInBounds_toArray, List.set_cons_zero, List.set_cons_succ]
          refine wpAnyH_take (i := 12) (oi := { dst := some 48, op := Go.Op.pick (Go.Operand.tmp 40) (Go.Operand.tmp 47) (Go.Operand.const (Go.Value.bool false)), type := 4, pos := "ref.go:61", after := #[{ on := 4, ground := Go.Ground.data }, { on := 11, ground := Go.Ground.data }], guard := none }) (v := ?v36) rfl (by kernel_rfl) (by kernel_rfl) (by kernel_rfl) (fun _ _ _ h => h) (Or.inl ⟨by rfl, ?hy36⟩) (by assumption) ?_
          case hy36 => (intro w hSw; (try dsimp only at hSw); go_simp; try with_reducible rfl)
          try simp only [Act.put, List.setIfInBounds_toArray, List.set_cons_zero, List.set_cons_succ]
          refine wpAnyH_done (by kernel_rfl) ?_ _
          have hT0 : Bw wr wA := (by (repeat' first | with_reducible exact Below.refl _ _ | with_reducible assumption | with_reducible refine Bw.drew ?_ | with_reducible refine Bw.drewN ?_ _ | with_reducible refine bw_al ?_ _ | with_reducible refine Bw.then ?_ (by with_reducible assumption)))
          have hins := HINS.out
          clear K0 HO2 HINS
          obtain ⟨A, hAe⟩ : ∃ A, A = (some ⟨gA, 0, none⟩ : Option Addr) := ⟨_, rfl⟩
          rw [← hAe] at h1 hown
          simp only [← hAe]
          clear hAe
          rename World => wT
          have rT := row_bw (hd.then hT0) rowB
          have d0 := row3_0 rT
          have d1 := row3_1 rT
          have d2 := row3_2 rT
          have hAT := (h1.after (hd.then hT0)).alloc (.cells #[.slice P2 m2 c2, .string t, .int .i64 1] 37)
          have hsT := (hd.then hT0).size
          have hxT : Sl tInt wT (fun b => w.heap.size ≤ b ∧ b < bx) (.slice P2 m2 c2) x := hx1.keep fun b hb => ⟨hb, (hd.then hT0).block b (by have := hb.2; omega)⟩
          have hrep : tEn.rep (wT.alloc (.cells #[.slice P2 m2 c2, .string t, .int .i64 1] 37)) (fun b => base ≤ b ∧ some b ≠ (Value.slice A n c).ownBlock) [.slice P2 m2 c2, .string t, .int .i64 1] (x, t, 1) :=
            en_mk (e := (x, t, 1)) (hxT.keep fun b hb => ⟨⟨by have := hb.1; omega, fun e => by have := (hown b e.symm).2; have := hb.1; omega⟩, at_old_eq (by have := hb.2; omega)⟩) ht (by simp [inI64])
          have hbT : Bw w (wT.alloc (.cells #[.slice P2 m2 c2, .string t, .int .i64 1] 37)) := bw_al (hb1.then (hd.then hT0)) _
          have HHS := Lib.hid hins
          have HHX := Lib.hid hxT
          have hszb : base ≤ (wT.alloc (.cells #[.slice P2 m2 c2, .string t, .int .i64 1] 37)).heap.size := by rw [sz_alloc]; omega
          clear hins hxT h1 hlo hhi HX
          go_wp2_with (at_builtin; refine wpList_app_one (T := tEn) rfl _ _ rfl Tryd.underlying28 hj hy0 hy1 hy2 rfl rfl hAT rfl (at_new rfl) hrep (by rw [← hn.out]; simp [maxLen]; omega) (by rw [← hn.out]; omega) hszb ?_; intro v7 w7 hA7 hg7 hat7; obtain ⟨A7, n7, c7, rfl, _, _, hn7⟩ := hA7.sl.form'; have hn7i : (n7 : Int) - 1 = (n : Int) := by have h1 := hn7.out; rw [List.length_append, List.length_singleton, ← hn.out] at h1; omega)
          have hn7n : n < n7 := by omega
          obtain ⟨gB, rfl, hgB1, hgB2⟩ := hA7.addr (k := n) hn7n
          have hne : (w.heap.size ≤ gB → bx < gB) := fun hle => by
            rcases hat7 with e7 | e7
            · have := (hown gB e7.symm).2; omega
            · have e8 : gB = wT.heap.size + 1 := (Option.some.inj e7).trans (sz_alloc _ _)
              omega
          have hgb : gB ≠ bx := fun e => by
            by_cases hle : w.heap.size ≤ gB
            · have := hne hle; omega
            · omega
          have hownN : ∀ k, w.heap.size ≤ k → some k ≠ (Value.slice A n c).ownBlock := fun k hk e => by have := (hown k e.symm).2; omega
          have rB7 : w7.heap[bx]? = some (.cells #[.slice P2 m2 c2, .string t, .int .i64 1] 37 (0, 0)) := (hg7.block bx (by rw [sz_alloc]; omega) (hownN bx hbw)).trans (at_old rT)
          have hx7 : Sl tInt w7 (fun b => base ≤ b ∧ some b ≠ some gB ∧ b < bx) (.slice P2 m2 c2) x := HHX.out.keep fun b hb => ⟨⟨by have := hb.1; omega, fun e => by injection e with e; have h9 := hne (by rw [← e]; exact hb.1); have := hb.2; omega, hb.2⟩, (hg7.block b (by rw [sz_alloc]; have := hb.2; omega) (hownN b hb.1)).trans (at_old_eq (by have := hb.2; omega))⟩
          have hb7 : Below base w w7 := ⟨hg7.os.trans hbT.os, hg7.tape.trans hbT.tape, hg7.output.trans hbT.output, Nat.le_trans hbT.size hg7.size, fun k hk => (hg7.block k (by have := hbT.size; omega) (fun e => by have := (hown k e.symm).1; omega)).trans (hbT.block k (by omega))⟩
          have hs7 : bx < w7.heap.size := (Array.getElem?_eq_some_iff.1 rB7).1
          clear hat7 hg7 hrep hAT HHX rT d0 d1 d2 hownN hbT hszb
          have hgn : g.length = n := hn.out.symm
          have hA7 : Acc tEn 37 w7 base (.slice (some ⟨gB, 0, none⟩) n7 c7) (shL g (x, t, 1) n) := by rw [← hgn, shL_top]; exact hA7
          go_loopw [11] (fun i wq => ∃ k : Nat, p ≤ k ∧ k ≤ n ∧ i = .int .i64 k ∧ w7.grownBy wq (some gB) ∧ Acc tEn 37 wq base (.slice (some ⟨gB, 0, none⟩) n7 c7) (shL g (x, t, 1) k)) (fun i _ => (intOf i).toNat)
          case atStart => exact ⟨n, by omega, Nat.le_refl _, rfl, ⟨rfl, rfl, rfl, Nat.le_refl _, fun _ _ _ => rfl⟩, hA7⟩
          case round =>
            obtain ⟨k, hpk, hkn, rfl, hgr, hAk⟩ := hrel
            have fz := hAk.frozen
            by_cases hlt3 : p < k
            · obtain ⟨j, hkj⟩ : ∃ j, k = j + 1 := ⟨k - 1, by omega⟩
              have hkji : (k : Int) - 1 = (j : Int) := by omega
              have hjn : j < n7 := by omega
              obtain ⟨y, uy, hyj, hys3, hyc3, huy, f0, f1, f2⟩ := hAk.en' (k := j) hjn
              obtain ⟨y', uy', hyk, _, _, _, q0, q1, q2⟩ := hAk.en' (k := k) (by omega)
              have hgj : Hid (g[j]? = some y) := by
                have h8 := hyj.out
                rw [hkj] at h8
                have h9 := List.getElem?_eq_getElem (l := g) (i := j) (by omega)
                rw [shL_read (by omega) h9] at h8
                injection h8 with h8
                rw [← h8]; exact h9
              have z0 := fz (k * 3)
              have z1 := fz (k * 3 + 1)
              have z2 := fz (k * 3 + 2)
              have HP := Lib.hid (hAk.put_en (k := k) (y := y) hyk.out huy hys3 hyc3)
              obtain ⟨Py, my, cy, rfl, _, _, _⟩ := huy.form'
              have hkn7 : k < n7 := by omega
              have hst : Hid ((shL g (x, t, 1) k).set k y = shL g (x, t, 1) j) := by
                show _ = _
                rw [hkj]; exact shL_step (by omega) hgj.out
              have hsz7 : g.length + 0 = n := by omega
              have hpj : p ≤ j := by omega
              have hjn2 : j ≤ n := by omega
              have hjk : j < k := by omega
              clear hkj hAk huy hyk hyj fz
              go_wp2_with fail
              have HP := HP.out
              rw [hst.out] at HP
              first | exact ⟨⟨j, hpj, hjn2, by go_num, grown_trans hgr HP.2, HP.1⟩, by simp [intOf]; omega⟩ | (exfalso; omega)
            · have hkp : k = p := by omega
              subst hkp
              have rBq : wr.heap[bx]? = some (.cells #[.slice P2 m2 c2, .string t, .int .i64 1] 37 (0, 0)) := (hgr.block bx hs7 (fun e => hgb (by injection e with e; exact e.symm))).trans rB7
              have d0 := row3_0 rBq
              have d1 := row3_1 rBq
              have d2 := row3_2 rBq
              obtain ⟨y', uy', hyk, _, _, _, q0, q1, q2⟩ := hAk.en' (k := k) (by omega)
              have hxq : Sl tInt wr (fun b => base ≤ b ∧ some b ≠ some gB) (.slice P2 m2 c2) x := hx7.keep fun b hb => ⟨⟨hb.1, hb.2.1⟩, hgr.block b (by have := hb.2.2; omega) hb.2.1⟩
              have z0 := fz (k * 3)
              have z1 := fz (k * 3 + 1)
              have z2 := fz (k * 3 + 2)
              have HP := Lib.hid (hAk.put_en (k := k) (y := (x, t, 1)) hyk.out hxq ht (by simp [inI64]))
              have hkn7 : k < n7 := by omega
              have hend : Hid ((shL g (x, t, 1) k).set k (x, t, 1) = insE (x, t) g) := by
                show _ = _
                rw [shL_end (by omega), HHS.out]
              have hbg : Below base w wr := ⟨hgr.os.trans hb7.os, hgr.tape.trans hb7.tape, hgr.output.trans hb7.output, Nat.le_trans hb7.size hgr.size, fun i hi => (hgr.block i (by have := hb7.size; omega) (fun e => by injection e with e; omega)).trans (hb7.block i hi)⟩
              clear hAk hyk fz hxq rBq
              go_wp2_with fail
              go_ret
              have HP := HP.out
              rw [hend.out] at HP
              exact ⟨_, rfl, ⟨HP.2.os.trans hbg.os, HP.2.tape.trans hbg.tape, HP.2.output.trans hbg.output, Nat.le_trans hbg.size HP.2.size, fun i hi => (HP.2.block i (by have := hbg.size; omega) (fun e => by injection e with e; omega)).trans (hbg.block i hi)⟩, HP.1⟩
      · have hpni : ¬ (p : Int) < (n : Int) := by omega
        have hpn2 : n ≤ p := by omega
        have hins : insE (x, t) g = g.take p ++ (x, t, 1) :: g.drop p := insE_mid g p (by have := hn.out; omega) hlo.out fun z hgz => absurd (List.getElem?_eq_some_iff.1 hgz).1 (by have := hn.out; omega)
        have HINS := Lib.hid hins
        clear hins hpn
        go_wp2_with fail
        refine wp_region_held_drew (S := fun _ => True) (by kernel_rfl) trivial (fun hHeld => ?_)
        refine wpAnyH_take (i := 0) (oi := { dst := some 36, op := Go.Op.move (Go.Operand.tmp 8), type := 3, pos := "ref.go:61", after := #[], guard := none }) (v := ?v7) rfl (by kernel_rfl) (by kernel_rfl) (by kernel_rfl) (fun _ _ _ h => h) (Or.inl ⟨by rfl, ?hy7⟩) (by assumption) ?_
        case hy7 => (intro w hSw; (try dsimp only at hSw); go_simp; try with_reducible rfl)
        try simp only [Act.put, List.setIfInBounds_toArray, List.set_cons_zero, List.set_cons_succ]
        refine wpAnyH_take (i := 1) (oi := { dst := some 37, op := Go.Op.move (Go.Operand.tmp 0), type := 28, pos := "ref.go:61", after := #[], guard := none }) (v := ?v8) rfl (by kernel_rfl) (by kernel_rfl) (by kernel_rfl) (fun _ _ _ h => h) (Or.inl ⟨by rfl, ?hy8⟩) (by assumption) ?_
        case hy8 => (intro w hSw; (try dsimp only at hSw); go_simp; try with_reducible rfl)
        try simp only [Act.put, List.setIfInBounds_toArray, List.set_cons_zero, List.set_cons_succ]
        refine wpAnyH_take (i := 2) (oi := { dst := some 38, op := Go.Op.call { callee := Go.Callee.builtin Go.Builtin.len, args := #[Go.Operand.tmp 37], argTypes := #[28] }, type := 3, pos := "ref.go:61", after := #[{ on := 1, ground := Go.Ground.data }], guard := none }) (v := ?v9) rfl (by kernel_rfl) (by kernel_rfl) (by kernel_rfl) (fun _ _ _ h => h) (Or.inl ⟨by rfl, ?hy9⟩) (by assumption) ?_
        case hy9 => (intro w hSw; (try dsimp only at hSw); go_simp; try with_reducible rfl)
        try simp only [Act.put, List.setIfInBounds_toArray, List.set_cons_zero, List.set_cons_succ]
        refine wpAnyH_take (i := 3) (oi := { dst := some 39, op := Go.Op.binOp Go.BinOp.lss 3 (Go.Operand.tmp 36) (Go.Operand.tmp 38) 3, type := 4, pos := "ref.go:61", after := #[{ on := 0, ground := Go.Ground.data }, { on := 2, ground := Go.Ground.data }], guard := none }) (v := Value.bool false) rfl (by kernel_rfl) (by kernel_rfl) (by kernel_rfl) (fun _ _ _ h => h) (Or.inl ⟨by rfl, ?hy10⟩) (by assumption) ?_
        case hy10 => (intro w hSw; (try dsimp only at hSw); go_simp)
        try simp only [Act.put, List.setIfInBounds_toArray, List.set_cons_zero, List.set_cons_succ]
        refine wpAnyH_take (i := 4) (oi := { dst := some 40, op := Go.Op.move (Go.Operand.tmp 39), type := 4, pos := "ref.go:61", after := #[{ on := 3, ground := Go.Ground.data }], guard := none }) (v := ?v11) rfl (by kernel_rfl) (by kernel_rfl) (by kernel_rfl) (fun _ _ _ h => h) (Or.inl ⟨by rfl, ?hy11⟩) (by assumption) ?_
        case hy11 => (intro w hSw; (try dsimp only at hSw); go_simp; try with_reducible rfl)
        try simp only [Act.put, List.setIfInBounds_toArray, List.set_cons_zero, List.set_cons_succ]
        refine wpAnyH_take (i := 5) (oi := { dst := some 41, op := Go.Op.move (Go.Operand.tmp 0), type := 28, pos := "ref.go:61", after := #[{ on := 4, ground := Go.Ground.guard }], guard := some (4, true) }) (v := undef) rfl (by kernel_rfl) (by kernel_rfl) (by kernel_rfl) (fun _ _ _ h => h) (Or.inr ⟨by rfl, rfl⟩) (by assumption) ?_
        try simp only [Act.put, List.setIfInBounds_toArray, List.set_cons_zero, List.set_cons_succ]
        refine wpAnyH_take (i := 6) (oi := { dst := some 42, op := Go.Op.move (Go.Operand.tmp 8), type := 3, pos := "ref.go:61", after := #[{ on := 4, ground := Go.Ground.guard }], guard := some (4, true) }) (v := undef) rfl (by kernel_rfl) (by kernel_rfl) (by kernel_rfl) (fun _ _ _ h => h) (Or.inr ⟨by rfl, rfl⟩) (by assumption) ?_
        try simp only [Act.put, List.setIfInBounds_toArray, List.set_cons_zero, List.set_cons_succ]
        refine wpAnyH_take (i := 7) (oi := { dst := some 43, op := Go.Op.indexAddr 28 (Go.Operand.tmp 41) (Go.Operand.tmp 42), type := 0, pos := "ref.go:61", after := #[{ on := 5, ground := Go.Ground.data }, { on := 6, ground := Go.Ground.data }, { on := 4, ground := Go.Ground.guard }], guard := some (4, true) }) (v := undef) rfl (by kernel_rfl) (by kernel_rfl) (by kernel_rfl) (fun _ _ _ h => h) (Or.inr ⟨by rfl, rfl⟩) (by assumption) ?_
        try simp only [Act.put, List.setIfInBounds_toArray, List.set_cons_zero, List.set_cons_succ]
        refine wpAnyH_take (i := 8) (oi := { dst := some 44, op := Go.Op.load 37 (Go.Operand.tmp 43), type := 37, pos := "ref.go:61", after := #[{ on := 7, ground := Go.Ground.data }, { on := 4, ground := Go.Ground.guard }], guard := some (4, true) }) (v := undef) rfl (by kernel_rfl) (by kernel_rfl) (by kernel_rfl) (fun _ _ _ h => h) (Or.inr ⟨by rfl, rfl⟩) (by assumption) ?_
        try simp only [Act.put, List.setIfInBounds_toArray, List.set_cons_zero, List.set_cons_succ]
        refine wpAnyH_take (i := 9) (oi := { dst := some 45, op := Go.Op.load 37 (Go.Operand.tmp 7), type := 37, pos := "ref.go:61", after := #[{ on := 4, ground := Go.Ground.guard }], guard := some (4, true) }) (v := undef) rfl (by kernel_rfl) (by kernel_rfl) (by kernel_rfl) (fun _ _ _ h => h) (Or.inr ⟨by rfl, rfl⟩) (by assumption) ?_
        try simp only [Act.put, List.setIfInBounds_toArray, List.set_cons_zero, List.set_cons_succ]
        refine wpAnyH_take (i := 10) (oi := { dst := some 46, op := Go.Op.call { callee := Go.Callee.value (Go.Operand.func 57), args := #[Go.Operand.tmp 44, Go.Operand.tmp 45], argTypes := #[37, 37] }, type := 3, pos := "ref.go:61", after := #[{ on := 8, ground := Go.Ground.data }, { on := 9, ground := Go.Ground.data }, { on := 4, ground := Go.Ground.chain }, { on := 4, ground := Go.Ground.guard }], guard := some (4, true) }) (v := undef) rfl (by kernel_rfl) (by kernel_rfl) (by kernel_rfl) (fun _ _ _ h => h) (Or.inr ⟨by rfl, rfl⟩) (by assumption) ?_
        try simp only [Act.put, List.setIfInBounds_toArray, List.set_cons_zero, List.set_cons_succ]
        refine wpAnyH_take (i := 11) (oi := { dst := some 47, op := Go.Op.binOp Go.BinOp.eql 3 (Go.Operand.tmp 46) (Go.Operand.const (Go.Value.int Go.IntKind.i64 0)) 3, type := 4, pos := "ref.go:61", after := #[{ on := 10, ground := Go.Ground.data }, { on := 4, ground := Go.Ground.guard }], guard := some (4, true) }) (v := undef) rfl (by kernel_rfl) (by kernel_rfl) (by kernel_rfl) (fun _ _ _ h => h) (Or.inr ⟨by rfl, rfl⟩) (by assumption) ?_
        try simp only [Act.put, List.setIfInBounds_toArray, List.set_cons_zero, List.set_cons_succ]
        refine wpAnyH_take (i := 12) (oi := { dst := some 48, op := Go.Op.pick (Go.Operand.tmp 40) (Go.Operand.tmp 47) (Go.Operand.const (Go.Value.bool false)), type := 4, pos := "ref.go:61", after := #[{ on := 4, ground := Go.Ground.data }, { on := 11, ground := Go.Ground.data }], guard := none }) (v := ?v12) rfl (by kernel_rfl) (by kernel_rfl) (by kernel_rfl) (fun _ _ _ h => h) (Or.inl ⟨by rfl, ?hy12⟩) (by assumption) ?_
        case hy12 => (intro w hSw; (try dsimp only at hSw); go_simp; try with_reducible rfl)
        try simp only [Act.put, List.setIfInBounds_toArray, List.set_cons_zero, List.set_cons_succ]
        refine wpAnyH_done (by kernel_rfl) ?_ _
        have hT0 : Bw wr wr.drew := (Below.refl _ _).drew
        have hins := HINS.out
        clear HINS
        obtain ⟨wT, hwT⟩ : ∃ wT, wT = wr.drew := ⟨_, rfl⟩
        rw [← hwT] at hT0
        simp only [← hwT]
        clear hwT
        have rT := row_bw (hd.then hT0) rowB
        have d0 := row3_0 rT
        have d1 := row3_1 rT
        have d2 := row3_2 rT
        have hAT := (h1.after (hd.then hT0)).alloc (.cells #[.slice P2 m2 c2, .string t, .int .i64 1] 37)
        have hsT := (hd.then hT0).size
        have hxT : Sl tInt wT (fun b => w.heap.size ≤ b ∧ b < bx) (.slice P2 m2 c2) x := hx1.keep fun b hb => ⟨hb, (hd.then hT0).block b (by have := hb.2; omega)⟩
        have hrep : tEn.rep (wT.alloc (.cells #[.slice P2 m2 c2, .string t, .int .i64 1] 37)) (fun b => base ≤ b ∧ some b ≠ (Value.slice A n c).ownBlock) [.slice P2 m2 c2, .string t, .int .i64 1] (x, t, 1) :=
          en_mk (e := (x, t, 1)) (hxT.keep fun b hb => ⟨⟨by have := hb.1; omega, fun e => by have := (hown b e.symm).2; have := hb.1; omega⟩, at_old_eq (by have := hb.2; omega)⟩) ht (by simp [inI64])
        have hbT : Bw w (wT.alloc (.cells #[.slice P2 m2 c2, .string t, .int .i64 1] 37)) := bw_al (hb1.then (hd.then hT0)) _
        have HHS := Lib.hid hins
        have HHX := Lib.hid hxT
        have hszb : base ≤ (wT.alloc (.cells #[.slice P2 m2 c2, .string t, .int .i64 1] 37)).heap.size := by rw [sz_alloc]; omega
        clear hins hxT h1 hlo hhi HX
        go_wp2_with (at_builtin; refine wpList_app_one (T := tEn) rfl _ _ rfl Tryd.underlying28 hj hy0 hy1 hy2 rfl rfl hAT rfl (at_new rfl) hrep (by rw [← hn.out]; simp [maxLen]; omega) (by rw [← hn.out]; omega) hszb ?_; intro v7 w7 hA7 hg7 hat7; obtain ⟨A7, n7, c7, rfl, _, _, hn7⟩ := hA7.sl.form'; have hn7i : (n7 : Int) - 1 = (n : Int) := by have h1 := hn7.out; rw [List.length_append, List.length_singleton, ← hn.out] at h1; omega)
        have hn7n : n < n7 := by omega
        obtain ⟨gB, rfl, hgB1, hgB2⟩ := hA7.addr (k := n) hn7n
        have hne : (w.heap.size ≤ gB → bx < gB) := fun hle => by
          rcases hat7 with e7 | e7
          · have := (hown gB e7.symm).2; omega
          · have e8 : gB = wT.heap.size + 1 := (Option.some.inj e7).trans (sz_alloc _ _)
            omega
        have hgb : gB ≠ bx := fun e => by
          by_cases hle : w.heap.size ≤ gB
          · have := hne hle; omega
          · omega
        have hownN : ∀ k, w.heap.size ≤ k → some k ≠ (Value.slice A n c).ownBlock := fun k hk e => by have := (hown k e.symm).2; omega
        have rB7 : w7.heap[bx]? = some (.cells #[.slice P2 m2 c2, .string t, .int .i64 1] 37 (0, 0)) := (hg7.block bx (by rw [sz_alloc]; omega) (hownN bx hbw)).trans (at_old rT)
        have hx7 : Sl tInt w7 (fun b => base ≤ b ∧ some b ≠ some gB ∧ b < bx) (.slice P2 m2 c2) x := HHX.out.keep fun b hb => ⟨⟨by have := hb.1; omega, fun e => by injection e with e; have h9 := hne (by rw [← e]; exact hb.1); have := hb.2; omega, hb.2⟩, (hg7.block b (by rw [sz_alloc]; have := hb.2; omega) (hownN b hb.1)).trans (at_old_eq (by have := hb.2; omega))⟩
        have hb7 : Below base w w7 := ⟨hg7.os.trans hbT.os, hg7.tape.trans hbT.tape, hg7.output.trans hbT.output, Nat.le_trans hbT.size hg7.size, fun k hk => (hg7.block k (by have := hbT.size; omega) (fun e => by have := (hown k e.symm).1; omega)).trans (hbT.block k (by omega))⟩
        have hs7 : bx < w7.heap.size := (Array.getElem?_eq_some_iff.1 rB7).1
        clear hat7 hg7 hrep hAT HHX rT d0 d1 d2 hownN hbT hszb
        have hgn : g.length = n := hn.out.symm
        have hA7 : Acc tEn 37 w7 base (.slice (some ⟨gB, 0, none⟩) n7 c7) (shL g (x, t, 1) n) := by rw [← hgn, shL_top]; exact hA7
        go_loopw [11] (fun i wq => ∃ k : Nat, p ≤ k ∧ k ≤ n ∧ i = .int .i64 k ∧ w7.grownBy wq (some gB) ∧ Acc tEn 37 wq base (.slice (some ⟨gB, 0, none⟩) n7 c7) (shL g (x, t, 1) k)) (fun i _ => (intOf i).toNat)
        case atStart => exact ⟨n, by omega, Nat.le_refl _, rfl, ⟨rfl, rfl, rfl, Nat.le_refl _, fun _ _ _ => rfl⟩, hA7⟩
        case round =>
          obtain ⟨k, hpk, hkn, rfl, hgr, hAk⟩ := hrel
          have fz := hAk.frozen
          by_cases hlt3 : p < k
          · obtain ⟨j, hkj⟩ : ∃ j, k = j + 1 := ⟨k - 1, by omega⟩
            have hkji : (k : Int) - 1 = (j : Int) := by omega
            have hjn : j < n7 := by omega
            obtain ⟨y, uy, hyj, hys3, hyc3, huy, f0, f1, f2⟩ := hAk.en' (k := j) hjn
            obtain ⟨y', uy', hyk, _, _, _, q0, q1, q2⟩ := hAk.en' (k := k) (by omega)
            have hgj : Hid (g[j]? = some y) := by
              have h8 := hyj.out
              rw [hkj] at h8
              have h9 := List.getElem?_eq_getElem (l := g) (i := j) (by omega)
              rw [shL_read (by omega) h9] at h8
              injection h8 with h8
              rw [← h8]; exact h9
            have z0 := fz (k * 3)
            have z1 := fz (k * 3 + 1)
            have z2 := fz (k * 3 + 2)
            have HP := Lib.hid (hAk.put_en (k := k) (y := y) hyk.out huy hys3 hyc3)
            obtain ⟨Py, my, cy, rfl, _, _, _⟩ := huy.form'
            have hkn7 : k < n7 := by omega
            have hst : Hid ((shL g (x, t, 1) k).set k y = shL g (x, t, 1) j) := by
              show _ = _
              rw [hkj]; exact shL_step (by omega) hgj.out
            have hsz7 : g.length + 0 = n := by omega
            have hpj : p ≤ j := by omega
            have hjn2 : j ≤ n := by omega
            have hjk : j < k := by omega
            clear hkj hAk huy hyk hyj fz
            go_wp2_with fail
            have HP := HP.out
            rw [hst.out] at HP
            first | exact ⟨⟨j, hpj, hjn2, by go_num, grown_trans hgr HP.2, HP.1⟩, by simp [intOf]; omega⟩ | (exfalso; omega)
          · have hkp : k = p := by omega
            subst hkp
            have rBq : wr.heap[bx]? = some (.cells #[.slice P2 m2 c2, .string t, .int .i64 1] 37 (0, 0)) := (hgr.block bx hs7 (fun e => hgb (by injection e with e; exact e.symm))).trans rB7
            have d0 := row3_0 rBq
            have d1 := row3_1 rBq
            have d2 := row3_2 rBq
            obtain ⟨y', uy', hyk, _, _, _, q0, q1, q2⟩ := hAk.en' (k := k) (by omega)
            have hxq : Sl tInt wr (fun b => base ≤ b ∧ some b ≠ some gB) (.slice P2 m2 c2) x := hx7.keep fun b hb => ⟨⟨hb.1, hb.2.1⟩, hgr.block b (by have := hb.2.2; omega) hb.2.1⟩
            have z0 := fz (k * 3)
            have z1 := fz (k * 3 + 1)
            have z2 := fz (k * 3 + 2)
            have HP := Lib.hid (hAk.put_en (k := k) (y := (x, t, 1)) hyk.out hxq ht (by simp [inI64]))
            have hkn7 : k < n7 := by omega
            have hend : Hid ((shL g (x, t, 1) k).set k (x, t, 1) = insE (x, t) g) := by
              show _ = _
              rw [shL_end (by omega), HHS.out]
            have hbg : Below base w wr := ⟨hgr.os.trans hb7.os, hgr.tape.trans hb7.tape, hgr.output.trans hb7.output, Nat.le_trans hb7.size hgr.size, fun i hi => (hgr.block i (by have := hb7.size; omega) (fun e => by injection e with e; omega)).trans (hb7.block i hi)⟩
            clear hAk hyk fz hxq rBq
            go_wp2_with fail
            go_ret
            have HP := HP.out
            rw [hend.out] at HP
            exact ⟨_, rfl, ⟨HP.2.os.trans hbg.os, HP.2.tape.trans hbg.tape, HP.2.output.trans hbg.output, Nat.le_trans hbg.size HP.2.size, fun i hi => (HP.2.block i (by have := hbg.size; omega) (fun e => by injection e with e; omega)).trans (hbg.block i hi)⟩, HP.1⟩
end Go.Proofs.YtonadloonidmjaaDoor
namespace Go.Proofs.YtonadloonidmjaaDoor
open Go.RowKit
open Pl

theorem bw_base {w a b : World} (h : Bw w a) (k : Below w.heap.size a b) : Bw w b := Below.trans h k
theorem learnE_snoc (a : List Ky) (x : Ky) : learnE (a ++ [x]) = insE x (learnE a) := by unfold learnE; rw [List.foldl_append]; rfl
theorem learnE_cnt {a : List Ky} {e : En} (h : e ∈ learnE a) : 0 ≤ e.2.2 ∧ e.2.2 ≤ a.length := by
  have h1 := ((lrn_learn a).2 e).1 h
  have h2 : cnt a (kyE e) ≤ a.length := List.countP_le_length
  omega
theorem learnE_len (a : List Ky) : (learnE a).length ≤ a.length := by
  have := learn_len a []
  simpa [learnE] using this
theorem knownB_pre {l : List Kn} (h : Pre l.length fun j => ∀ y, l[j]? = some y → knB y = true) : knownB l = true :=
  knownB_iff.2 fun k hk => by
    obtain ⟨j, hj⟩ := List.mem_iff_getElem?.1 hk
    exact h j (List.getElem?_eq_some_iff.1 hj).1 k hj
theorem knownB_no {l : List Kn} {y : Kn} {k : Nat} (h : l[k]? = some y) (hy : knB y = false) : knownB l = false := by
  cases hk : knownB l
  · rfl
  · have := knownB_iff.1 hk y (List.mem_of_getElem? h)
    rw [hy] at this; cases this
set_option linter.unusedSimpArgs false in
set_option maxRecDepth 100000 in
set_option maxHeartbeats 16000000 in
theorem rlearn_any {v : Value} {l : List Kn} {most : Int} {w : World} (h : Rd tKn w v l) :
    Calls Tryd.prog 16 #[v, .int .i64 most] w (LearnR l most w) := by
  have hm := h.len_le
  obtain ⟨A, N, c, rfl, hNc, hc, hN⟩ := h.form'
  by_cases a1 : N ≤ 3000
  rotate_left
  · have hR : Hid (learnP l most = ([], 1)) := by show _ = _; unfold learnP argB; rw [decide_eq_false (by rw [← hN.out]; exact a1)]; rfl
    have z1 : (3000 : Int) < (N : Int) := by omega
    go_enter Tryd.func16, Tryd.ntmps16
    go_wp2_with fail
    go_ret2
    exact ⟨.slice none 0 0, by rw [hR.out]; rfl, Below.refl _ _, by rw [hR.out]; exact Sl.nil⟩
  have z1 : ¬ (3000 : Int) < (N : Int) := by omega
  by_cases a2 : 0 ≤ most
  rotate_left
  · have hR : Hid (learnP l most = ([], 1)) := by show _ = _; unfold learnP argB; rw [decide_eq_false a2, Bool.false_and, Bool.and_false]; rfl
    have z2 : most < 0 := by omega
    go_enter Tryd.func16, Tryd.ntmps16
    go_wp2_with fail
    go_ret2
    exact ⟨.slice none 0 0, by rw [hR.out]; rfl, Below.refl _ _, by rw [hR.out]; exact Sl.nil⟩
  have z2 : ¬ most < 0 := by omega
  by_cases a3 : most ≤ 40
  rotate_left
  · have hR : Hid (learnP l most = ([], 1)) := by show _ = _; unfold learnP argB; rw [decide_eq_false a3, Bool.false_and, Bool.and_false, Bool.and_false]; rfl
    have z3 : (40 : Int) < most := by omega
    go_enter Tryd.func16, Tryd.ntmps16
    go_wp2_with fail
    go_ret2
    exact ⟨.slice none 0 0, by rw [hR.out]; rfl, Below.refl _ _, by rw [hR.out]; exact Sl.nil⟩
  obtain ⟨M, rfl⟩ : ∃ M : Nat, most = (M : Int) := ⟨most.toNat, by omega⟩
  have z3 : ¬ (40 : Int) < (M : Int) := by omega
  have hM40 : M ≤ 40 := by omega
  have hRf : knownB l = false → Hid (learnP l (M : Int) = ([], 1)) := fun a4 => by show _ = _; unfold learnP argB; rw [a4, Bool.and_false, Bool.and_false, Bool.and_false]; rfl
  have hRt : knownB l = true → Hid (learnP l (M : Int) = if (learnE (evs l M)).length ≤ 30000 then (learnE (evs l M), 0) else ([], 2)) := fun a4 => by
    show _ = _
    have hA4 : argB l (M : Int) = true := by unfold argB; rw [a4, decide_eq_true (by rw [← hN.out]; exact a1), decide_eq_true a2, decide_eq_true a3]; rfl
    unfold learnP; rw [hA4, if_pos rfl, Int.toNat_natCast]
  have HRf := Lib.hid hRf
  have HRt := Lib.hid hRt
  clear hRf hRt
  go_enter Tryd.func16, Tryd.ntmps16
  go_wp2_with fail
  go_loopw [6] (fun i wr => ∃ k : Nat, k ≤ N ∧ i = .int .i64 k ∧ Bw w wr ∧ Pre k (fun j => ∀ y, l[j]? = some y → knB y = true)) (fun i _ => N - (intOf i).toNat)
  case atStart => exact ⟨0, Nat.zero_le _, rfl, Below.refl _ _, Pre.zero⟩
  case round =>
    obtain ⟨k, hk, rfl, hd, hno⟩ := hrel
    by_cases hlt : k < N
    · obtain ⟨bb, off, y, u1, rfl, hy, hys, hu, e0, e1⟩ := h.kn (k := k) (by have := hN.out; omega)
      have e0 := bw_cell hd e0
      have e1 := bw_cell hd e1
      have HK := Lib.hid (rknown_any (k := y) (hu.rd.after hd))
      obtain ⟨A1, n1, c1, rfl, _, _, _⟩ := hu.form'
      cases hq : knB y
      · have hR := HRf.out (knownB_no hy.out hq)
        rw [hq] at HK
        clear hu hno HRt HRf hq
        go_wp2_with fail
        with_reducible refine HK.out.mono ?_
        rintro e w1 ⟨rfl, hb1⟩
        clear HK
        go_wp2_with fail
        go_ret2
        exact ⟨.slice none 0 0, by rw [hR.out]; rfl, hd.then hb1, by rw [hR.out]; exact Sl.nil⟩
      · have hno2 := hno.snoc (fun z hz => by rw [hy.out] at hz; injection hz with hz; subst hz; exact hq)
        rw [hq] at HK
        have HNO := Lib.hid hno2
        clear hu hno hno2 hq
        go_wp2_with fail
        with_reducible refine HK.out.mono ?_
        rintro e w1 ⟨rfl, hb1⟩
        clear HK
        go_wp2_with fail
        exact ⟨⟨k + 1, hlt, by go_num, hd.then hb1, HNO.out⟩, by simp [intOf]; omega⟩
    · have hkN : k = N := by omega
      subst hkN
      have hkn : knownB l = true := knownB_pre (by rw [← hN.out]; exact hno)
      have hR := HRt.out hkn
      clear HRf HRt hno hkn
      go_wp2_with fail
      rename World => w1
      go_loopw [7, 8] (fun t i wr => ∃ q : Nat, q ≤ k ∧ i = .int .i64 q ∧ Bw w wr ∧ Acc tEn 37 wr w.heap.size t (learnE (evs (l.take q) M))) (fun _ i _ => k - (intOf i).toNat)
      case atStart => exact ⟨0, Nat.zero_le _, rfl, hd, Acc.nil _ _⟩
      case round =>
        obtain ⟨q, hq, rfl, hdr, hA⟩ := hrel
        by_cases hlt2 : q < k
        · obtain ⟨bb, off, y, u1, rfl, hy, hys, hu, e0, e1⟩ := h.kn (k := q) (by have := hN.out; omega)
          obtain ⟨A1, c1, rfl, hc1, hc2⟩ := hu.form
          have hul := hu.rd.len_le
          have E0 := Lib.hid (fun (W : World) (kk : Bw w W) => bw_cell kk e0)
          have E1 := Lib.hid (fun (W : World) (kk : Bw w W) => bw_cell kk e1)
          have HU := Lib.hid (fun (W : World) (kk : Bw w W) => hu.rd.after kk)
          clear hu e0 e1
          go_wp2_with fail
          rename World => w2
          go_loopw [7, 9] (fun t i wq => ∃ n : Nat, n ≤ min M y.1.length + 1 ∧ i = .int .i64 n ∧ Bw w wq ∧ Acc tEn 37 wq w.heap.size t (learnE (evs (l.take q) M ++ evPre y n))) (fun _ i _ => min M y.1.length + 1 - (intOf i).toNat)
          case atStart => exact ⟨0, Nat.zero_le _, rfl, hdr, by rw [evPre_zero, List.append_nil]; exact hA⟩
          case round =>
            obtain ⟨n, hn, rfl, hdq, hAq⟩ := hrel
            have e0 := E0.out _ hdq
            by_cases hnM : n ≤ M
            rotate_left
            · have z4 : ¬ (n : Int) ≤ (M : Int) := by omega
              have hne : n = min M y.1.length + 1 := by omega
              have hCE : Acc tEn 37 wr w.heap.size u7 (learnE (evs (l.take (q + 1)) M)) := by
                rw [List.take_add_one, hy.out]
                simp only [Option.toList_some]
                rw [evs_snoc, ← evPre_all hne]; exact hAq
              go_wp2_with fail
              exact ⟨⟨q + 1, hlt2, by go_num, hdq, hCE⟩, by simp [intOf]; omega⟩
            have z4 : (n : Int) ≤ (M : Int) := by omega
            by_cases hnL : n ≤ y.1.length
            rotate_left
            · have z5 : ¬ (n : Int) ≤ (y.1.length : Int) := by omega
              have hne : n = min M y.1.length + 1 := by omega
              have hCE : Acc tEn 37 wr w.heap.size u7 (learnE (evs (l.take (q + 1)) M)) := by
                rw [List.take_add_one, hy.out]
                simp only [Option.toList_some]
                rw [evs_snoc, ← evPre_all hne]; exact hAq
              go_wp2_with fail
              exact ⟨⟨q + 1, hlt2, by go_num, hdq, hCE⟩, by simp [intOf]; omega⟩
            have z5 : (n : Int) ≤ (y.1.length : Int) := by omega
            obtain ⟨r, hr⟩ : ∃ r, r = y.1.length - n := ⟨_, rfl⟩
            have hr' : (y.1.length : Int) - (n : Int) = (r : Int) := by omega
            have hwr : IntKind.i64.wrap (r : Int) = (r : Int) := by simp [IntKind.wrap, IntKind.bits, IntKind.signed]; omega
            obtain ⟨B, mB, dB, hct, hcl⟩ := tail_ints (A := A1) (c := c1) (xs := y.1) (k := r) (by omega) hul
            have hyl : (y.1.drop r).length = n := by rw [List.length_drop]; omega
            have hr2 : IntKind.i64.wrap ((y.1.length - n : Nat) : Int) = (r : Int) := by rw [← hr]; exact hwr
            have HR' := Lib.hid hr
            have hlen : (evs (l.take q) M ++ evPre y n).length ≤ 200000 := by
              have h2 := evs_len (l.take q) hM40
              have h3 : (l.take q).length ≤ q := by rw [List.length_take]; omega
              have h4 : (evPre y n).length = n := by unfold evPre; simp
              rw [List.length_append, h4]
              omega
            have e1 := E1.out _ hdq
            have K0 : ∀ W, Bw w W → (W.cell? ⟨bb, off + q * 2, none⟩ = some (.slice A1 y.1.length c1) ∧ W.cell? ⟨bb, off + q * 2 + 1, none⟩ = some (.string y.2)) := fun W kk => ⟨E0.out W kk, E1.out W kk⟩
            have HC := Lib.hid (fun (W : World) (kk : Bw wr W) => count_any (t := y.2) (hAq.after kk) (hcl W _ (HU.out W (hdq.then kk))) (lrn_learn _).1 (by rw [hyl]; omega) (by simpa [maxLen] using hys) (Nat.le_trans (learnE_len _) (by omega)) (fun e he => by have := learnE_cnt he; omega) (hdq.then kk).size)
            have hsn : Hid (insE (y.1.drop r, y.2) (learnE (evs (l.take q) M ++ evPre y n)) = learnE (evs (l.take q) M ++ evPre y (n + 1))) := by
              show _ = _
              rw [evPre_snoc, ← List.append_assoc, learnE_snoc, ← HR'.out]
            clear hr hcl hlen hyl hAq
            go_wp2_with fail
            refine wp_region_held_drew (S := fun u => u.cell? ⟨bb, off + q * 2, none⟩ = some (.slice A1 y.1.length c1) ∧ u.cell? ⟨bb, off + q * 2 + 1, none⟩ = some (.string y.2)) (by kernel_rfl) ?_ (fun hHeld => ?_)
            · exact K0 _ hdq.drew
            refine wpAnyH_take (i := 0) (oi := { dst := some 54, op := Go.Op.move (Go.Operand.tmp 7), type := 28, pos := "ref.go:86", after := #[], guard := none }) (v := ?v1) rfl (by kernel_rfl) (by kernel_rfl) (by kernel_rfl) (fun _ _ _ h => h) (Or.inl ⟨by rfl, ?hy1⟩) (by assumption) ?_
            case hy1 => (intro w hSw; (try dsimp only at hSw); go_simp; try with_reducible rfl)
            try simp only [Act.put, List.setIfInBounds_toArray, List.set_cons_zero, List.set_cons_succ]
            refine wpAnyH_take (i := 1) (oi := { dst := some 55, op := Go.Op.move (Go.Operand.tmp 0), type := 22, pos := "ref.go:86", after := #[], guard := none }) (v := ?v2) rfl (by kernel_rfl) (by kernel_rfl) (by kernel_rfl) (fun _ _ _ h => h) (Or.inl ⟨by rfl, ?hy2⟩) (by assumption) ?_
            case hy2 => (intro w hSw; (try dsimp only at hSw); go_simp; try with_reducible rfl)
            try simp only [Act.put, List.setIfInBounds_toArray, List.set_cons_zero, List.set_cons_succ]
            refine wpAnyH_take (i := 2) (oi := { dst := some 56, op := Go.Op.move (Go.Operand.tmp 8), type := 3, pos := "ref.go:86", after := #[], guard := none }) (v := ?v3) rfl (by kernel_rfl) (by kernel_rfl) (by kernel_rfl) (fun _ _ _ h => h) (Or.inl ⟨by rfl, ?hy3⟩) (by assumption) ?_
            case hy3 => (intro w hSw; (try dsimp only at hSw); go_simp; try with_reducible rfl)
            try simp only [Act.put, List.setIfInBounds_toArray, List.set_cons_zero, List.set_cons_succ]
            refine wpAnyH_take (i := 3) (oi := { dst := some 57, op := Go.Op.indexAddr 22 (Go.Operand.tmp 55) (Go.Operand.tmp 56), type := 0, pos := "ref.go:86", after := #[{ on := 1, ground := Go.Ground.data }, { on := 2, ground := Go.Ground.data }], guard := none }) (v := ?v4) rfl (by kernel_rfl) (by kernel_rfl) (by kernel_rfl) (fun _ _ _ h => h) (Or.inl ⟨by rfl, ?hy4⟩) (by assumption) ?_
            case hy4 => (intro w hSw; (try dsimp only at hSw); go_simp; try with_reducible rfl)
            try simp only [Act.put, List.setIfInBounds_toArray, List.set_cons_zero, List.set_cons_succ]
            refine wpAnyH_take (i := 4) (oi := { dst := some 58, op := Go.Op.fieldAddr 27 (Go.Operand.tmp 57) 0, type := 0, pos := "ref.go:86", after := #[{ on := 3, ground := Go.Ground.data }], guard := none }) (v := ?v5) rfl (by kernel_rfl) (by kernel_rfl) (by kernel_rfl) (fun _ _ _ h => h) (Or.inl ⟨by rfl, ?hy5⟩) (by assumption) ?_
            case hy5 => (intro w hSw; (try dsimp only at hSw); go_simp; try with_reducible rfl)
            try simp only [Act.put, List.setIfInBounds_toArray, List.set_cons_zero, List.set_cons_succ]
            refine wpAnyH_take (i := 5) (oi := { dst := some 59, op := Go.Op.load 25 (Go.Operand.tmp 58), type := 25, pos := "ref.go:86", after := #[{ on := 4, ground := Go.Ground.data }], guard := none }) (v := ?v6) rfl (by kernel_rfl) (by kernel_rfl) (by kernel_rfl) (fun _ _ _ h => h) (Or.inl ⟨by rfl, ?hy6⟩) (by assumption) ?_
            case hy6 => (intro w hSw; (try dsimp only at hSw); go_simp; try with_reducible rfl)
            try simp only [Act.put, List.setIfInBounds_toArray, List.set_cons_zero, List.set_cons_succ]
            refine wpAnyH_take (i := 6) (oi := { dst := some 60, op := Go.Op.move (Go.Operand.tmp 0), type := 22, pos := "ref.go:86", after := #[], guard := none }) (v := ?v7) rfl (by kernel_rfl) (by kernel_rfl) (by kernel_rfl) (fun _ _ _ h => h) (Or.inl ⟨by rfl, ?hy7⟩) (by assumption) ?_
            case hy7 => (intro w hSw; (try dsimp only at hSw); go_simp; try with_reducible rfl)
            try simp only [Act.put, List.setIfInBounds_toArray, List.set_cons_zero, List.set_cons_succ]
            refine wpAnyH_take (i := 7) (oi := { dst := some 61, op := Go.Op.move (Go.Operand.tmp 8), type := 3, pos := "ref.go:86", after := #[], guard := none }) (v := ?v8) rfl (by kernel_rfl) (by kernel_rfl) (by kernel_rfl) (fun _ _ _ h => h) (Or.inl ⟨by rfl, ?hy8⟩) (by assumption) ?_
            case hy8 => (intro w hSw; (try dsimp only at hSw); go_simp; try with_reducible rfl)
            try simp only [Act.put, List.setIfInBounds_toArray, List.set_cons_zero, List.set_cons_succ]
            refine wpAnyH_take (i := 8) (oi := { dst := some 62, op := Go.Op.indexAddr 22 (Go.Operand.tmp 60) (Go.Operand.tmp 61), type := 0, pos := "ref.go:86", after := #[{ on := 6, ground := Go.Ground.data }, { on := 7, ground := Go.Ground.data }], guard := none }) (v := ?v9) rfl (by kernel_rfl) (by kernel_rfl) (by kernel_rfl) (fun _ _ _ h => h) (Or.inl ⟨by rfl, ?hy9⟩) (by assumption) ?_
            case hy9 => (intro w hSw; (try dsimp only at hSw); go_simp; try with_reducible rfl)
            try simp only [Act.put, List.setIfInBounds_toArray, List.set_cons_zero, List.set_cons_succ]
            refine wpAnyH_take (i := 9) (oi := { dst := some 63, op := Go.Op.fieldAddr 27 (Go.Operand.tmp 62) 0, type := 0, pos := "ref.go:86", after := #[{ on := 8, ground := Go.Ground.data }], guard := none }) (v := ?v10) rfl (by kernel_rfl) (by kernel_rfl) (by kernel_rfl) (fun _ _ _ h => h) (Or.inl ⟨by rfl, ?hy10⟩) (by assumption) ?_
            case hy10 => (intro w hSw; (try dsimp only at hSw); go_simp; try with_reducible rfl)
            try simp only [Act.put, List.setIfInBounds_toArray, List.set_cons_zero, List.set_cons_succ]
            refine wpAnyH_take (i := 10) (oi := { dst := some 64, op := Go.Op.load 25 (Go.Operand.tmp 63), type := 25, pos := "ref.go:86", after := #[{ on := 9, ground := Go.Ground.data }], guard := none }) (v := ?v11) rfl (by kernel_rfl) (by kernel_rfl) (by kernel_rfl) (fun _ _ _ h => h) (Or.inl ⟨by rfl, ?hy11⟩) (by assumption) ?_
            case hy11 => (intro w hSw; (try dsimp only at hSw); go_simp; try with_reducible rfl)
            try simp only [Act.put, List.setIfInBounds_toArray, List.set_cons_zero, List.set_cons_succ]
            refine wpAnyH_take (i := 11) (oi := { dst := some 65, op := Go.Op.call { callee := Go.Callee.builtin Go.Builtin.len, args := #[Go.Operand.tmp 64], argTypes := #[25] }, type := 3, pos := "ref.go:86", after := #[{ on := 10, ground := Go.Ground.data }], guard := none }) (v := ?v12) rfl (by kernel_rfl) (by kernel_rfl) (by kernel_rfl) (fun _ _ _ h => h) (Or.inl ⟨by rfl, ?hy12⟩) (by assumption) ?_
            case hy12 => (intro w hSw; (try dsimp only at hSw); go_simp; try with_reducible rfl)
            try simp only [Act.put, List.setIfInBounds_toArray, List.set_cons_zero, List.set_cons_succ]
            refine wpAnyH_take (i := 12) (oi := { dst := some 66, op := Go.Op.move (Go.Operand.tmp 9), type := 3, pos := "ref.go:86", after := #[], guard := none }) (v := ?v13) rfl (by kernel_rfl) (by kernel_rfl) (by kernel_rfl) (fun _ _ _ h => h) (Or.inl ⟨by rfl, ?hy13⟩) (by assumption) ?_
            case hy13 => (intro w hSw; (try dsimp only at hSw); go_simp; try with_reducible rfl)
            try simp only [Act.put, List.setIfInBounds_toArray, List.set_cons_zero, List.set_cons_succ]
            refine wpAnyH_take (i := 13) (oi := { dst := some 67, op := Go.Op.binOp Go.BinOp.sub 3 (Go.Operand.tmp 65) (Go.Operand.tmp 66) 3, type := 3, pos := "ref.go:86", after := #[{ on := 11, ground := Go.Ground.data }, { on := 12, ground := Go.Ground.data }], guard := none }) (v := Value.int .i64 (r : Int)) rfl (by kernel_rfl) (by kernel_rfl) (by kernel_rfl) (fun _ _ _ h => h) (Or.inl ⟨by rfl, ?hy14⟩) (by assumption) ?_
            case hy14 => (intro w hSw; (try dsimp only at hSw); go_simp)
            try simp only [Act.put, List.setIfInBounds_toArray, List.set_cons_zero, List.set_cons_succ]
            refine wpAnyH_take (i := 14) (oi := { dst := some 68, op := Go.Op.slice 25 (Go.Operand.tmp 59) (some (Go.Operand.tmp 67)) none none, type := 25, pos := "ref.go:86", after := #[{ on := 5, ground := Go.Ground.data }, { on := 13, ground := Go.Ground.data }], guard := none }) (v := Value.slice B mB dB) rfl (by kernel_rfl) (by kernel_rfl) (by kernel_rfl) (fun _ _ _ h => h) (Or.inl ⟨by rfl, ?hy15⟩) (by assumption) ?_
            case hy15 => (intro w hSw; exact y_slice25 _ _ rfl rfl rfl (hct w))
            try simp only [Act.put, List.setIfInBounds_toArray, List.set_cons_zero, List.set_cons_succ]
            refine wpAnyH_take (i := 15) (oi := { dst := some 69, op := Go.Op.move (Go.Operand.tmp 0), type := 22, pos := "ref.go:86", after := #[], guard := none }) (v := ?v16) rfl (by kernel_rfl) (by kernel_rfl) (by kernel_rfl) (fun _ _ _ h => h) (Or.inl ⟨by rfl, ?hy16⟩) (by assumption) ?_
            case hy16 => (intro w hSw; (try dsimp only at hSw); go_simp; try with_reducible rfl)
            try simp only [Act.put, List.setIfInBounds_toArray, List.set_cons_zero, List.set_cons_succ]
            refine wpAnyH_take (i := 16) (oi := { dst := some 70, op := Go.Op.move (Go.Operand.tmp 8), type := 3, pos := "ref.go:86", after := #[], guard := none }) (v := ?v17) rfl (by kernel_rfl) (by kernel_rfl) (by kernel_rfl) (fun _ _ _ h => h) (Or.inl ⟨by rfl, ?hy17⟩) (by assumption) ?_
            case hy17 => (intro w hSw; (try dsimp only at hSw); go_simp; try with_reducible rfl)
            try simp only [Act.put, List.setIfInBounds_toArray, List.set_cons_zero, List.set_cons_succ]
            refine wpAnyH_take (i := 17) (oi := { dst := some 71, op := Go.Op.indexAddr 22 (Go.Operand.tmp 69) (Go.Operand.tmp 70), type := 0, pos := "ref.go:86", after := #[{ on := 15, ground := Go.Ground.data }, { on := 16, ground := Go.Ground.data }], guard := none }) (v := ?v18) rfl (by kernel_rfl) (by kernel_rfl) (by kernel_rfl) (fun _ _ _ h => h) (Or.inl ⟨by rfl, ?hy18⟩) (by assumption) ?_
            case hy18 => (intro w hSw; (try dsimp only at hSw); go_simp; try with_reducible rfl)
            try simp only [Act.put, List.setIfInBounds_toArray, List.set_cons_zero, List.set_cons_succ]
            refine wpAnyH_take (i := 18) (oi := { dst := some 72, op := Go.Op.fieldAddr 27 (Go.Operand.tmp 71) 1, type := 0, pos := "ref.go:86", after := #[{ on := 17, ground := Go.Ground.data }], guard := none }) (v := ?v19) rfl (by kernel_rfl) (by kernel_rfl) (by kernel_rfl) (fun _ _ _ h => h) (Or.inl ⟨by rfl, ?hy19⟩) (by assumption) ?_
            case hy19 => (intro w hSw; (try dsimp only at hSw); go_simp; try with_reducible rfl)
            try simp only [Act.put, List.setIfInBounds_toArray, List.set_cons_zero, List.set_cons_succ]
            refine wpAnyH_take (i := 19) (oi := { dst := some 73, op := Go.Op.load 9 (Go.Operand.tmp 72), type := 9, pos := "ref.go:86", after := #[{ on := 18, ground := Go.Ground.data }], guard := none }) (v := ?v20) rfl (by kernel_rfl) (by kernel_rfl) (by kernel_rfl) (fun _ _ _ h => h) (Or.inl ⟨by rfl, ?hy20⟩) (by assumption) ?_
            case hy20 => (intro w hSw; (try dsimp only at hSw); go_simp; try with_reducible rfl)
            try simp only [Act.put, List.setIfInBounds_toArray, List.set_cons_zero, List.set_cons_succ]
            refine wpAnyH_ready (rs := [20]) (by kernel_rfl) (by simp) ?_
            refine (AllReadyH.cons (i := 20) (o := { dst := some 74, op := Go.Op.call { callee := Go.Callee.value (Go.Operand.func 38), args := #[Go.Operand.tmp 54, Go.Operand.tmp 68, Go.Operand.tmp 73], argTypes := #[28, 25, 9] }, type := 28, pos := "ref.go:86", after := #[{ on := 0, ground := Go.Ground.data }, { on := 14, ground := Go.Ground.data }, { on := 19, ground := Go.Ground.data }], guard := none }) rfl (fun K' hK' => ?_) AllReadyH.nil)
            go_simp
            with_reducible refine (HC.out _ (Bw.drew (Below.refl _ _))).mono ?_
            rintro e wA ⟨v', rfl, hbA, hA'⟩
            try dsimp only
            refine hK'.out _ _ ?_ (fun hHeld => ?_)
            · exact K0 _ (bw_base hdq.drew hbA)
            clear hK' K'
            try simp only [Act.put, List.setIfInBounds_toArray, List.set_cons_zero, List.set_cons_succ]
            refine wpAnyH_take (i := 21) (oi := { dst := some 7, op := Go.Op.assign (Go.Operand.tmp 74), type := 28, pos := "ref.go:86", after := #[{ on := 20, ground := Go.Ground.data }, { on := 20, ground := Go.Ground.chain }, { on := 0, ground := Go.Ground.phase }, { on := 1, ground := Go.Ground.phase }, { on := 2, ground := Go.Ground.phase }, { on := 3, ground := Go.Ground.phase }, { on := 4, ground := Go.Ground.phase }, { on := 5, ground := Go.Ground.phase }, { on := 6, ground := Go.Ground.phase }, { on := 7, ground := Go.Ground.phase }, { on := 8, ground := Go.Ground.phase }, { on := 9, ground := Go.Ground.phase }, { on := 10, ground := Go.Ground.phase }, { on := 11, ground := Go.Ground.phase }, { on := 12, ground := Go.Ground.phase }, { on := 13, ground := Go.Ground.phase }, { on := 14, ground := Go.Ground.phase }, { on := 15, ground := Go.Ground.phase }, { on := 16, ground := Go.Ground.phase }, { on := 17, ground := Go.Ground.phase }, { on := 18, ground := Go.Ground.phase }, { on := 19, ground := Go.Ground.phase }, { on := 20, ground := Go.Ground.phase }], guard := none }) (v := ?v21) rfl (by kernel_rfl) (by kernel_rfl) (by kernel_rfl) (fun _ _ _ h => h) (Or.inl ⟨by rfl, ?hy21⟩) (by assumption) ?_
            case hy21 => (intro w hSw; (try dsimp only at hSw); go_simp; try with_reducible rfl)
            try simp only [Act.put, List.setIfInBounds_toArray, List.set_cons_zero, List.set_cons_succ]
            refine wpAnyH_done (by kernel_rfl) ?_ _
            go_wp2_with fail
            exact ⟨⟨n + 1, by omega, by go_num, bw_base hdq.drew hbA, by rw [← hsn.out]; exact hA'⟩, by simp [intOf]; omega⟩
        · have hqk : q = k := by omega
          subst hqk
          have hall : l.take q = l := List.take_of_length_le (by have := hN.out; omega)
          rw [hall] at hA
          obtain ⟨A7, n7, c7, rfl, _, _, hn7⟩ := hA.sl.form'
          have hAh := Lib.hid hA.hi
          clear hA hall
          by_cases hbig : n7 ≤ 30000
          · have z4 : ¬ (30000 : Int) < (n7 : Int) := by omega
            have hRR : Hid (learnP l (M : Int) = (learnE (evs l M), 0)) := by show _ = _; rw [hR.out, if_pos (by rw [← hn7.out]; exact hbig)]
            go_wp2_with fail
            go_ret2
            exact ⟨_, by rw [hRR.out]; rfl, hdr, by rw [hRR.out]; exact hAh.out⟩
          · have z4 : (30000 : Int) < (n7 : Int) := by omega
            have hRR : Hid (learnP l (M : Int) = ([], 2)) := by show _ = _; rw [hR.out, if_neg (by rw [← hn7.out]; exact hbig)]
            go_wp2_with fail
            go_ret2
            exact ⟨.slice none 0 0, by rw [hRR.out]; rfl, hdr, by rw [hRR.out]; exact Sl.nil⟩
end Go.Proofs.YtonadloonidmjaaDoor
namespace Go.Proofs.YtonadloonidmjaaDoor
open Go.RowKit
open Pl

theorem wholeE_snoc (a : List ByteArray) (t : ByteArray) : wholeE (a ++ [t]) = insS t (wholeE a) := by unfold wholeE; rw [List.foldl_append]; rfl
theorem insS_len (t : ByteArray) : ∀ o : List ByteArray, (insS t o).length ≤ o.length + 1
  | [] => by simp [insS]
  | y :: r => by
    have := insS_len t r
    rw [insS]
    split
    · simp; omega
    · split
      · simp
      · simp
theorem wholeE_len : ∀ (l o : List ByteArray), (l.foldl (fun o t => insS t o) o).length ≤ o.length + l.length
  | [], o => by simp
  | t :: r, o => by
    have h1 := wholeE_len r (insS t o)
    have h2 := insS_len t o
    simp only [List.foldl_cons, List.length_cons]
    omega
set_option linter.unusedSimpArgs false in
set_option maxRecDepth 100000 in
set_option maxHeartbeats 16000000 in
theorem rwhole_any {v u : Value} {l : List Kn} {x : List Int} {w : World} (h : Rd tKn w v l) (hx : Rd tInt w u x) (hl : l.length ≤ 1000000) :
    Calls Tryd.prog 18 #[v, u] w (Fr tStr w (wholeP l x)) := by
  obtain ⟨i0, hi, hz0, hz1, hz2⟩ := info_parts infoStr
  obtain ⟨A0, N, c0, rfl, hNc, hc, hN⟩ := h.form'
  obtain ⟨A', n', c', rfl, _, _, _⟩ := hx.form'
  have hNl : N ≤ 1000000 := by have := hN.out; omega
  go_enter Tryd.func18, Tryd.ntmps18
  go_wp2_with fail
  go_loopw [5, 6] (fun o i wr => ∃ k : Nat, k ≤ N ∧ i = .int .i64 k ∧ Bw w wr ∧ Acc tStr 9 wr w.heap.size o (wholeE (tagsOf (l.take k) x)) ∧ Pre k (fun j => ∀ y, l[j]? = some y → knB y = true)) (fun _ i _ => N - (intOf i).toNat)
  case atStart => exact ⟨0, Nat.zero_le _, rfl, Below.refl _ _, Acc.nil _ _, Pre.zero⟩
  case round =>
    obtain ⟨k, hk, rfl, hd, hA, hno⟩ := hrel
    by_cases hlt : k < N
    rotate_left
    · have hkN : k = N := by omega
      subst hkN
      have hkn : knownB l = true := knownB_pre (by rw [← hN.out]; exact hno)
      have hall : l.take k = l := List.take_of_length_le (by have := hN.out; omega)
      have hR : Hid (wholeP l x = wholeE (tagsOf l x)) := by show _ = _; unfold wholeP; rw [hkn]; rfl
      rw [hall] at hA
      have hAh := Lib.hid hA.hi
      clear hA hno hall hkn
      go_wp2_with fail
      go_ret
      exact ⟨_, rfl, hd, by rw [hR.out]; exact hAh.out⟩
    obtain ⟨bb, off, y, u1, rfl, hy, hys, hu, e0, e1⟩ := h.kn (k := k) (by have := hN.out; omega)
    have E1 := Lib.hid (fun (W : World) (kk : Bw w W) => bw_cell kk e1)
    have E0 := Lib.hid (fun (W : World) (kk : Bw w W) => bw_cell kk e0)
    have HK := Lib.hid (rknown_any (k := y) (hu.rd.after hd))
    have HS := Lib.hid (fun (W : World) (kk : Bw w W) => sameInts_any (hu.rd.after kk) (hx.after kk))
    obtain ⟨A1, n1, c1, rfl, _, _, _⟩ := hu.form'
    clear e0 e1
    have e0 := E0.out _ hd
    have e1 := E1.out _ hd
    cases hq : knB y
    · have hR : Hid (wholeP l x = []) := by show _ = _; unfold wholeP; rw [knownB_no hy.out hq]; rfl
      rw [hq] at HK
      clear hu hno hq hA
      go_wp2_with fail
      with_reducible refine HK.out.mono ?_
      rintro e w1 ⟨rfl, hb1⟩
      clear HK
      go_wp2_with fail
      go_ret
      exact ⟨.slice none 0 0, rfl, hd.then hb1, by rw [hR.out]; exact Sl.nil⟩
    have HNO := Lib.hid (hno.snoc (fun z hz => by rw [hy.out] at hz; injection hz with hz; subst hz; exact hq))
    rw [hq] at HK
    cases hsm : same y.1 x
    · have hsn : Hid (tagsOf (l.take (k + 1)) x = tagsOf (l.take k) x) := by
        show _ = _
        unfold same at hsm
        rw [decide_eq_false_iff_not] at hsm
        rw [tagsOf_snoc hy.out, if_neg hsm, List.append_nil]
      rw [hsm] at HS
      clear hu hno hq hsm
      go_wp2_with fail
      with_reducible refine HK.out.mono ?_
      rintro e w1 ⟨rfl, hb1⟩
      have hd1 := hd.then hb1
      have e0 := E0.out _ hd1
      have hA := hA.after hb1
      clear HK
      go_wp2_with fail
      with_reducible refine (HS.out _ hd1).mono ?_
      rintro e w2 ⟨rfl, hd2⟩
      have hA := hA.after hd2.bw
      have hdw := hd1.then hd2.bw
      rw [← hsn.out] at hA
      clear HS e0
      go_wp2_with fail
      exact ⟨⟨k + 1, hlt, by go_num, hdw, hA, HNO.out⟩, by simp [intOf]; omega⟩
    have hsn : Hid (wholeE (tagsOf (l.take (k + 1)) x) = insS y.2 (wholeE (tagsOf (l.take k) x))) := by
      show _ = _
      unfold same at hsm
      rw [decide_eq_true_iff] at hsm
      rw [tagsOf_snoc hy.out, if_pos hsm, wholeE_snoc]
    have hol : (wholeE (tagsOf (l.take k) x)).length ≤ 1000000 := by
      have h1 := wholeE_len (tagsOf (l.take k) x) []
      have h2 := tagsOf_len (l.take k) x
      have h3 : (l.take k).length ≤ k := by rw [List.length_take]; omega
      unfold wholeE
      simp at h1
      omega
    obtain ⟨out, hout⟩ : ∃ out, out = wholeE (tagsOf (l.take k) x) := ⟨_, rfl⟩
    rw [← hout] at hA hsn hol
    rw [hsm] at HS
    clear hu hno hq hsm hout
    go_wp2_with fail
    with_reducible refine HK.out.mono ?_
    rintro e w1 ⟨rfl, hb1⟩
    have hd1 := hd.then hb1
    have e0 := E0.out _ hd1
    have hA := hA.after hb1
    clear HK
    go_wp2_with fail
    with_reducible refine (HS.out _ hd1).mono ?_
    rintro e w2 ⟨rfl, hd2⟩
    have hA := hA.after hd2.bw
    have hdw := hd1.then hd2.bw
    obtain ⟨A, n, c, rfl, _, _, hn⟩ := hA.sl.form'
    have hn1 : n ≤ 1000000 := by have := hn.out; omega
    clear HS e0 e1 hd1 hd hb1 hd2
    go_wp2_with fail
    go_loopw [7] (fun i wr => ∃ p : Nat, p ≤ n ∧ i = .int .i64 p ∧ Bw w2 wr ∧ Hid (∀ j z, j < p → out[j]? = some z → cmpB z y.2 < 0)) (fun i _ => n - (intOf i).toNat)
    case atStart => exact ⟨0, Nat.zero_le _, rfl, Below.refl _ _, fun j z hj => absurd hj (by omega)⟩
    case round =>
      obtain ⟨p, hp, rfl, hdp, hlo⟩ := hrel
      by_cases hpn : p < n
      · have hpni : (p : Int) < (n : Int) := by omega
        obtain ⟨gA, rfl, hgA1, hgA2⟩ := hA.addr (k := p) hpn
        have hAp := hA.after hdp
        obtain ⟨z, hz, hzs, f0⟩ := hAp.str' (k := p) hpn
        have K0 : ∀ W, Bw wr W → (W.cell? ⟨gA, p, none⟩ = some (.string z) ∧ W.cell? ⟨bb, off + k * 2 + 1, none⟩ = some (.string y.2)) := fun W kk => ⟨bw_cell kk f0, E1.out W ((hdw.then hdp).then kk)⟩
        have HC := Lib.hid (fun W : World => bcompare_any (w := W) z y.2 (by simpa [maxLen] using hzs) (by simpa [maxLen] using hys))
        by_cases hlt2 : cmpB z y.2 < 0
        · have hL : Hid (∀ j z, j < p + 1 → out[j]? = some z → cmpB z y.2 < 0) := fun j z' hj hgz => by
            rcases Nat.lt_or_eq_of_le (Nat.le_of_lt_succ hj) with h2 | rfl
            · exact hlo.out j z' h2 hgz
            · rw [hz.out] at hgz; injection hgz with hgz; subst hgz; exact hlt2
          have HC2 : Hid (∀ W : World, Calls Tryd.prog 39 #[.string z, .string y.2] W fun e w' => e = .returned (.int .i64 (cmpB z y.2)) ∧ Dr W w') := HC.out
          generalize cmpB z y.2 = q at *
          have hqd := decide_eq_true hlt2
          clear HC hlo f0 hAp
          go_wp2_with fail
          refine wp_region_held_drew (S := fun u => u.cell? ⟨gA, p, none⟩ = some (.string z) ∧ u.cell? ⟨bb, off + k * 2 + 1, none⟩ = some (.string y.2)) (by kernel_rfl) ?_ (fun hHeld => ?_)
          · exact K0 _ (Bw.drew (Below.refl _ _))
          refine wpAnyH_take (i := 0) (oi := { dst := some 29, op := Go.Op.move (Go.Operand.tmp 7), type := 3, pos := "ref.go:139", after := #[], guard := none }) (v := ?v1) rfl (by kernel_rfl) (by kernel_rfl) (by kernel_rfl) (fun _ _ _ h => h) (Or.inl ⟨by rfl, ?hy1⟩) (by assumption) ?_
          case hy1 => (intro w hSw; (try dsimp only at hSw); go_simp; try with_reducible rfl)
          try simp only [Act.put, List.setIfInBounds_toArray, List.set_cons_zero, List.set_cons_succ]
          refine wpAnyH_take (i := 1) (oi := { dst := some 30, op := Go.Op.move (Go.Operand.tmp 5), type := 39, pos := "ref.go:139", after := #[], guard := none }) (v := ?v2) rfl (by kernel_rfl) (by kernel_rfl) (by kernel_rfl) (fun _ _ _ h => h) (Or.inl ⟨by rfl, ?hy2⟩) (by assumption) ?_
          case hy2 => (intro w hSw; (try dsimp only at hSw); go_simp; try with_reducible rfl)
          try simp only [Act.put, List.setIfInBounds_toArray, List.set_cons_zero, List.set_cons_succ]
          refine wpAnyH_take (i := 2) (oi := { dst := some 31, op := Go.Op.call { callee := Go.Callee.builtin Go.Builtin.len, args := #[Go.Operand.tmp 30], argTypes := #[39] }, type := 3, pos := "ref.go:139", after := #[{ on := 1, ground := Go.Ground.data }], guard := none }) (v := ?v3) rfl (by kernel_rfl) (by kernel_rfl) (by kernel_rfl) (fun _ _ _ h => h) (Or.inl ⟨by rfl, ?hy3⟩) (by assumption) ?_
          case hy3 => (intro w hSw; (try dsimp only at hSw); go_simp; try with_reducible rfl)
          try simp only [Act.put, List.setIfInBounds_toArray, List.set_cons_zero, List.set_cons_succ]
          refine wpAnyH_take (i := 3) (oi := { dst := some 32, op := Go.Op.binOp Go.BinOp.lss 3 (Go.Operand.tmp 29) (Go.Operand.tmp 31) 3, type := 4, pos := "ref.go:139", after := #[{ on := 0, ground := Go.Ground.data }, { on := 2, ground := Go.Ground.data }], guard := none }) (v := Value.bool true) rfl (by kernel_rfl) (by kernel_rfl) (by kernel_rfl) (fun _ _ _ h => h) (Or.inl ⟨by rfl, ?hy4⟩) (by assumption) ?_
          case hy4 => (intro w hSw; (try dsimp only at hSw); go_simp)
          try simp only [Act.put, List.setIfInBounds_toArray, List.set_cons_zero, List.set_cons_succ]
          refine wpAnyH_take (i := 4) (oi := { dst := some 33, op := Go.Op.move (Go.Operand.tmp 32), type := 4, pos := "ref.go:139", after := #[{ on := 3, ground := Go.Ground.data }], guard := none }) (v := ?v5) rfl (by kernel_rfl) (by kernel_rfl) (by kernel_rfl) (fun _ _ _ h => h) (Or.inl ⟨by rfl, ?hy5⟩) (by assumption) ?_
          case hy5 => (intro w hSw; (try dsimp only at hSw); go_simp; try with_reducible rfl)
          try simp only [Act.put, List.setIfInBounds_toArray, List.set_cons_zero, List.set_cons_succ]
          refine wpAnyH_take (i := 5) (oi := { dst := some 34, op := Go.Op.move (Go.Operand.tmp 5), type := 39, pos := "ref.go:139", after := #[{ on := 4, ground := Go.Ground.guard }], guard := some (4, true) }) (v := ?v6) rfl (by kernel_rfl) (by kernel_rfl) (by kernel_rfl) (fun _ _ _ h => h) (Or.inl ⟨by rfl, ?hy6⟩) (by assumption) ?_
          case hy6 => (intro w hSw; (try dsimp only at hSw); go_simp; try with_reducible rfl)
          try simp only [Act.put, List.setIfInBounds_toArray, List.set_cons_zero, List.set_cons_succ]
          refine wpAnyH_take (i := 6) (oi := { dst := some 35, op := Go.Op.move (Go.Operand.tmp 7), type := 3, pos := "ref.go:139", after := #[{ on := 4, ground := Go.Ground.guard }], guard := some (4, true) }) (v := ?v7) rfl (by kernel_rfl) (by kernel_rfl) (by kernel_rfl) (fun _ _ _ h => h) (Or.inl ⟨by rfl, ?hy7⟩) (by assumption) ?_
          case hy7 => (intro w hSw; (try dsimp only at hSw); go_simp; try with_reducible rfl)
          try simp only [Act.put, List.setIfInBounds_toArray, List.set_cons_zero, List.set_cons_succ]
          refine wpAnyH_take (i := 7) (oi := { dst := some 36, op := Go.Op.indexAddr 39 (Go.Operand.tmp 34) (Go.Operand.tmp 35), type := 0, pos := "ref.go:139", after := #[{ on := 5, ground := Go.Ground.data }, { on := 6, ground := Go.Ground.data }, { on := 4, ground := Go.Ground.guard }], guard := some (4, true) }) (v := ?v8) rfl (by kernel_rfl) (by kernel_rfl) (by kernel_rfl) (fun _ _ _ h => h) (Or.inl ⟨by rfl, ?hy8⟩) (by assumption) ?_
          case hy8 => (intro w hSw; (try dsimp only at hSw); go_simp; try with_reducible rfl)
          try simp only [Act.put, List.setIfInBounds_toArray, List.set_cons_zero, List.set_cons_succ]
          refine wpAnyH_take (i := 8) (oi := { dst := some 37, op := Go.Op.load 9 (Go.Operand.tmp 36), type := 9, pos := "ref.go:139", after := #[{ on := 7, ground := Go.Ground.data }, { on := 4, ground := Go.Ground.guard }], guard := some (4, true) }) (v := ?v9) rfl (by kernel_rfl) (by kernel_rfl) (by kernel_rfl) (fun _ _ _ h => h) (Or.inl ⟨by rfl, ?hy9⟩) (by assumption) ?_
          case hy9 => (intro w hSw; (try dsimp only at hSw); go_simp; try with_reducible rfl)
          try simp only [Act.put, List.setIfInBounds_toArray, List.set_cons_zero, List.set_cons_succ]
          refine wpAnyH_take (i := 9) (oi := { dst := some 38, op := Go.Op.move (Go.Operand.tmp 0), type := 22, pos := "ref.go:139", after := #[{ on := 4, ground := Go.Ground.guard }], guard := some (4, true) }) (v := ?v10) rfl (by kernel_rfl) (by kernel_rfl) (by kernel_rfl) (fun _ _ _ h => h) (Or.inl ⟨by rfl, ?hy10⟩) (by assumption) ?_
          case hy10 => (intro w hSw; (try dsimp only at hSw); go_simp; try with_reducible rfl)
          try simp only [Act.put, List.setIfInBounds_toArray, List.set_cons_zero, List.set_cons_succ]
          refine wpAnyH_take (i := 10) (oi := { dst := some 39, op := Go.Op.move (Go.Operand.tmp 6), type := 3, pos := "ref.go:139", after := #[{ on := 4, ground := Go.Ground.guard }], guard := some (4, true) }) (v := ?v11) rfl (by kernel_rfl) (by kernel_rfl) (by kernel_rfl) (fun _ _ _ h => h) (Or.inl ⟨by rfl, ?hy11⟩) (by assumption) ?_
          case hy11 => (intro w hSw; (try dsimp only at hSw); go_simp; try with_reducible rfl)
          try simp only [Act.put, List.setIfInBounds_toArray, List.set_cons_zero, List.set_cons_succ]
          refine wpAnyH_take (i := 11) (oi := { dst := some 40, op := Go.Op.indexAddr 22 (Go.Operand.tmp 38) (Go.Operand.tmp 39), type := 0, pos := "ref.go:139", after := #[{ on := 9, ground := Go.Ground.data }, { on := 10, ground := Go.Ground.data }, { on := 4, ground := Go.Ground.guard }], guard := some (4, true) }) (v := ?v12) rfl (by kernel_rfl) (by kernel_rfl) (by kernel_rfl) (fun _ _ _ h => h) (Or.inl ⟨by rfl, ?hy12⟩) (by assumption) ?_
          case hy12 => (intro w hSw; (try dsimp only at hSw); go_simp; try with_reducible rfl)
          try simp only [Act.put, List.setIfInBounds_toArray, List.set_cons_zero, List.set_cons_succ]
          refine wpAnyH_take (i := 12) (oi := { dst := some 41, op := Go.Op.fieldAddr 27 (Go.Operand.tmp 40) 1, type := 0, pos := "ref.go:139", after := #[{ on := 11, ground := Go.Ground.data }, { on := 4, ground := Go.Ground.guard }], guard := some (4, true) }) (v := ?v13) rfl (by kernel_rfl) (by kernel_rfl) (by kernel_rfl) (fun _ _ _ h => h) (Or.inl ⟨by rfl, ?hy13⟩) (by assumption) ?_
          case hy13 => (intro w hSw; (try dsimp only at hSw); go_simp; try with_reducible rfl)
          try simp only [Act.put, List.setIfInBounds_toArray, List.set_cons_zero, List.set_cons_succ]
          refine wpAnyH_take (i := 13) (oi := { dst := some 42, op := Go.Op.load 9 (Go.Operand.tmp 41), type := 9, pos := "ref.go:139", after := #[{ on := 12, ground := Go.Ground.data }, { on := 4, ground := Go.Ground.guard }], guard := some (4, true) }) (v := ?v14) rfl (by kernel_rfl) (by kernel_rfl) (by kernel_rfl) (fun _ _ _ h => h) (Or.inl ⟨by rfl, ?hy14⟩) (by assumption) ?_
          case hy14 => (intro w hSw; (try dsimp only at hSw); go_simp; try with_reducible rfl)
          try simp only [Act.put, List.setIfInBounds_toArray, List.set_cons_zero, List.set_cons_succ]
          refine wpAnyH_ready (rs := [14]) (by kernel_rfl) (by simp) ?_
          refine (AllReadyH.cons (i := 14) (o := { dst := some 43, op := Go.Op.call { callee := Go.Callee.value (Go.Operand.func 39), args := #[Go.Operand.tmp 37, Go.Operand.tmp 42], argTypes := #[9, 9] }, type := 3, pos := "ref.go:139", after := #[{ on := 8, ground := Go.Ground.data }, { on := 13, ground := Go.Ground.data }, { on := 4, ground := Go.Ground.chain }, { on := 4, ground := Go.Ground.guard }], guard := some (4, true) }) rfl (fun K' hK' => ?_) AllReadyH.nil)
          go_simp
          with_reducible refine (HC2.out _).mono ?_
          rintro e wA ⟨rfl, hdA⟩
          have hbA' := (Bw.drew (Below.refl _ wr)).then hdA.bw
          try dsimp only
          refine hK'.out _ _ ?_ (fun hHeld => ?_)
          · exact K0 _ hbA'
          clear hK' K'
          try simp only [Act.put, List.setIfInBounds_toArray, List.set_cons_zero, List.set_cons_succ]
          refine wpAnyH_take (i := 15) (oi := { dst := some 44, op := Go.Op.binOp Go.BinOp.lss 3 (Go.Operand.tmp 43) (Go.Operand.const (Go.Value.int Go.IntKind.i64 0)) 3, type := 4, pos := "ref.go:139", after := #[{ on := 14, ground := Go.Ground.data }, { on := 4, ground := Go.Ground.guard }], guard := some (4, true) }) (v := Value.bool true) rfl (by kernel_rfl) (by kernel_rfl) (by kernel_rfl) (fun _ _ _ h => h) (Or.inl ⟨by rfl, ?hy15⟩) (by assumption) ?_
          case hy15 => (intro w hSw; (try dsimp only at hSw); go_simp)
          try simp only [Act.put, List.setIfInBounds_toArray, List.set_cons_zero, List.set_cons_succ]
          refine wpAnyH_take (i := 16) (oi := { dst := some 45, op := Go.Op.pick (Go.Operand.tmp 33) (Go.Operand.tmp 44) (Go.Operand.const (Go.Value.bool false)), type := 4, pos := "ref.go:139", after := #[{ on := 4, ground := Go.Ground.data }, { on := 15, ground := Go.Ground.data }], guard := none }) (v := ?v16) rfl (by kernel_rfl) (by kernel_rfl) (by kernel_rfl) (fun _ _ _ h => h) (Or.inl ⟨by rfl, ?hy16⟩) (by assumption) ?_
          case hy16 => (intro w hSw; (try dsimp only at hSw); go_simp; try with_reducible rfl)
          try simp only [Act.put, List.setIfInBounds_toArray, List.set_cons_zero, List.set_cons_succ]
          refine wpAnyH_done (by kernel_rfl) ?_ _
          have hT0 : Bw wr wA := hbA'
          go_wp2_with fail
          exact ⟨⟨p + 1, hpn, by go_num, hdp.then hT0, hL⟩, by simp [intOf]; omega⟩
        · have hge : ¬ cmpB z y.2 < 0 := hlt2
          have HC2 : Hid (∀ W : World, Calls Tryd.prog 39 #[.string z, .string y.2] W fun e w' => e = .returned (.int .i64 (cmpB z y.2)) ∧ Dr W w') := HC.out
          have HGE := Lib.hid hge
          generalize hqq : cmpB z y.2 = q at HC2 hlt2
          have hqd := decide_eq_false hlt2
          clear HC f0 hAp hge hqq
          go_wp2_with fail
          refine wp_region_held_drew (S := fun u => u.cell? ⟨gA, p, none⟩ = some (.string z) ∧ u.cell? ⟨bb, off + k * 2 + 1, none⟩ = some (.string y.2)) (by kernel_rfl) ?_ (fun hHeld => ?_)
          · exact K0 _ (Bw.drew (Below.refl _ _))
          refine wpAnyH_take (i := 0) (oi := { dst := some 29, op := Go.Op.move (Go.Operand.tmp 7), type := 3, pos := "ref.go:139", after := #[], guard := none }) (v := ?v17) rfl (by kernel_rfl) (by kernel_rfl) (by kernel_rfl) (fun _ _ _ h => h) (Or.inl ⟨by rfl, ?hy17⟩) (by assumption) ?_
          case hy17 => (intro w hSw; (try dsimp only at hSw); go_simp; try with_reducible rfl)
          try simp only [Act.put, List.setIfInBounds_toArray, List.set_cons_zero, List.set_cons_succ]
          refine wpAnyH_take (i := 1) (oi := { dst := some 30, op := Go.Op.move (Go.Operand.tmp 5), type := 39, pos := "ref.go:139", after := #[], guard := none }) (v := ?v18) rfl (by kernel_rfl) (by kernel_rfl) (by kernel_rfl) (fun _ _ _ h => h) (Or.inl ⟨by rfl, ?hy18⟩) (by assumption) ?_
          case hy18 => (intro w hSw; (try dsimp only at hSw); go_simp; try with_reducible rfl)
          try simp only [Act.put, List.setIfInBounds_toArray, List.set_cons_zero, List.set_cons_succ]
          refine wpAnyH_take (i := 2) (oi := { dst := some 31, op := Go.Op.call { callee := Go.Callee.builtin Go.Builtin.len, args := #[Go.Operand.tmp 30], argTypes := #[39] }, type := 3, pos := "ref.go:139", after := #[{ on := 1, ground := Go.Ground.data }], guard := none }) (v := ?v19) rfl (by kernel_rfl) (by kernel_rfl) (by kernel_rfl) (fun _ _ _ h => h) (Or.inl ⟨by rfl, ?hy19⟩) (by assumption) ?_
          case hy19 => (intro w hSw; (try dsimp only at hSw); go_simp; try with_reducible rfl)
          try simp only [Act.put, List.setIfInBounds_toArray, List.set_cons_zero, List.set_cons_succ]
          refine wpAnyH_take (i := 3) (oi := { dst := some 32, op := Go.Op.binOp Go.BinOp.lss 3 (Go.Operand.tmp 29) (Go.Operand.tmp 31) 3, type := 4, pos := "ref.go:139", after := #[{ on := 0, ground := Go.Ground.data }, { on := 2, ground := Go.Ground.data }], guard := none }) (v := Value.bool true) rfl (by kernel_rfl) (by kernel_rfl) (by kernel_rfl) (fun _ _ _ h => h) (Or.inl ⟨by rfl, ?hy20⟩) (by assumption) ?_
          case hy20 => (intro w hSw; (try dsimp only at hSw); go_simp)
          try simp only [Act.put, List.setIfInBounds_toArray, List.set_cons_zero, List.set_cons_succ]
          refine wpAnyH_take (i := 4) (oi := { dst := some 33, op := Go.Op.move (Go.Operand.tmp 32), type := 4, pos := "ref.go:139", after := #[{ on := 3, ground := Go.Ground.data }], guard := none }) (v := ?v21) rfl (by kernel_rfl) (by kernel_rfl) (by kernel_rfl) (fun _ _ _ h => h) (Or.inl ⟨by rfl, ?hy21⟩) (by assumption) ?_
          case hy21 => (intro w hSw; (try dsimp only at hSw); go_simp; try with_reducible rfl)
          try simp only [Act.put, List.setIfInBounds_toArray, List.set_cons_zero, List.set_cons_succ]
          refine wpAnyH_take (i := 5) (oi := { dst := some 34, op := Go.Op.move (Go.Operand.tmp 5), type := 39, pos := "ref.go:139", after := #[{ on := 4, ground := Go.Ground.guard }], guard := some (4, true) }) (v := ?v22) rfl (by kernel_rfl) (by kernel_rfl) (by kernel_rfl) (fun _ _ _ h => h) (Or.inl ⟨by rfl, ?hy22⟩) (by assumption) ?_
          case hy22 => (intro w hSw; (try dsimp only at hSw); go_simp; try with_reducible rfl)
          try simp only [Act.put, List.setIfInBounds_toArray, List.set_cons_zero, List.set_cons_succ]
          refine wpAnyH_take (i := 6) (oi := { dst := some 35, op := Go.Op.move (Go.Operand.tmp 7), type := 3, pos := "ref.go:139", after := #[{ on := 4, ground := Go.Ground.guard }], guard := some (4, true) }) (v := ?v23) rfl (by kernel_rfl) (by kernel_rfl) (by kernel_rfl) (fun _ _ _ h => h) (Or.inl ⟨by rfl, ?hy23⟩) (by assumption) ?_
          case hy23 => (intro w hSw; (try dsimp only at hSw); go_simp; try with_reducible rfl)
          try simp only [Act.put, List.setIfInBounds_toArray, List.set_cons_zero, List.set_cons_succ]
          refine wpAnyH_take (i := 7) (oi := { dst := some 36, op := Go.Op.indexAddr 39 (Go.Operand.tmp 34) (Go.Operand.tmp 35), type := 0, pos := "ref.go:139", after := #[{ on := 5, ground := Go.Ground.data }, { on := 6, ground := Go.Ground.data }, { on := 4, ground := Go.Ground.guard }], guard := some (4, true) }) (v := ?v24) rfl (by kernel_rfl) (by kernel_rfl) (by kernel_rfl) (fun _ _ _ h => h) (Or.inl ⟨by rfl, ?hy24⟩) (by assumption) ?_
          case hy24 => (intro w hSw; (try dsimp only at hSw); go_simp; try with_reducible rfl)
          try simp only [Act.put, List.setIfInBounds_toArray, List.set_cons_zero, List.set_cons_succ]
          refine wpAnyH_take (i := 8) (oi := { dst := some 37, op := Go.Op.load 9 (Go.Operand.tmp 36), type := 9, pos := "ref.go:139", after := #[{ on := 7, ground := Go.Ground.data }, { on := 4, ground := Go.Ground.guard }], guard := some (4, true) }) (v := ?v25) rfl (by kernel_rfl) (by kernel_rfl) (by kernel_rfl) (fun _ _ _ h => h) (Or.inl ⟨by rfl, ?hy25⟩) (by assumption) ?_
          case hy25 => (intro w hSw; (try dsimp only at hSw); go_simp; try with_reducible rfl)
          try simp only [Act.put, List.setIfInBounds_toArray, List.set_cons_zero, List.set_cons_succ]
          refine wpAnyH_take (i := 9) (oi := { dst := some 38, op := Go.Op.move (Go.Operand.tmp 0), type := 22, pos := "ref.go:139", after := #[{ on := 4, ground := Go.Ground.guard }], guard := some (4, true) }) (v := ?v26) rfl (by kernel_rfl) (by kernel_rfl) (by kernel_rfl) (fun _ _ _ h => h) (Or.inl ⟨by rfl, ?hy26⟩) (by assumption) ?_
          case hy26 => (intro w hSw; (try dsimp only at hSw); go_simp; try with_reducible rfl)
          try simp only [Act.put, List.setIfInBounds_toArray, List.set_cons_zero, List.set_cons_succ]
          refine wpAnyH_take (i := 10) (oi := { dst := some 39, op := Go.Op.move (Go.Operand.tmp 6), type := 3, pos := "ref.go:139", after := #[{ on := 4, ground := Go.Ground.guard }], guard := some (4, true) }) (v := ?v27) rfl (by kernel_rfl) (by kernel_rfl) (by kernel_rfl) (fun _ _ _ h => h) (Or.inl ⟨by rfl, ?hy27⟩) (by assumption) ?_
          case hy27 => (intro w hSw; (try dsimp only at hSw); go_simp; try with_reducible rfl)
          try simp only [Act.put, List.setIfInBounds_toArray, List.set_cons_zero, List.set_cons_succ]
          refine wpAnyH_take (i := 11) (oi := { dst := some 40, op := Go.Op.indexAddr 22 (Go.Operand.tmp 38) (Go.Operand.tmp 39), type := 0, pos := "ref.go:139", after := #[{ on := 9, ground := Go.Ground.data }, { on := 10, ground := Go.Ground.data }, { on := 4, ground := Go.Ground.guard }], guard := some (4, true) }) (v := ?v28) rfl (by kernel_rfl) (by kernel_rfl) (by kernel_rfl) (fun _ _ _ h => h) (Or.inl ⟨by rfl, ?hy28⟩) (by assumption) ?_
          case hy28 => (intro w hSw; (try dsimp only at hSw); go_simp; try with_reducible rfl)
          try simp only [Act.put, List.setIfInBounds_toArray, List.set_cons_zero, List.set_cons_succ]
          refine wpAnyH_take (i := 12) (oi := { dst := some 41, op := Go.Op.fieldAddr 27 (Go.Operand.tmp 40) 1, type := 0, pos := "ref.go:139", after := #[{ on := 11, ground := Go.Ground.data }, { on := 4, ground := Go.Ground.guard }], guard := some (4, true) }) (v := ?v29) rfl (by kernel_rfl) (by kernel_rfl) (by kernel_rfl) (fun _ _ _ h => h) (Or.inl ⟨by rfl, ?hy29⟩) (by assumption) ?_
          case hy29 => (intro w hSw; (try dsimp only at hSw); go_simp; try with_reducible rfl)
          try simp only [Act.put, List.setIfInBounds_toArray, List.set_cons_zero, List.set_cons_succ]
          refine wpAnyH_take (i := 13) (oi := { dst := some 42, op := Go.Op.load 9 (Go.Operand.tmp 41), type := 9, pos := "ref.go:139", after := #[{ on := 12, ground := Go.Ground.data }, { on := 4, ground := Go.Ground.guard }], guard := some (4, true) }) (v := ?v30) rfl (by kernel_rfl) (by kernel_rfl) (by kernel_rfl) (fun _ _ _ h => h) (Or.inl ⟨by rfl, ?hy30⟩) (by assumption) ?_
          case hy30 => (intro w hSw; (try dsimp only at hSw); go_simp; try with_reducible rfl)
          try simp only [Act.put, List.setIfInBounds_toArray, List.set_cons_zero, List.set_cons_succ]
          refine wpAnyH_ready (rs := [14]) (by kernel_rfl) (by simp) ?_
          refine (AllReadyH.cons (i := 14) (o := { dst := some 43, op := Go.Op.call { callee := Go.Callee.value (Go.Operand.func 39), args := #[Go.Operand.tmp 37, Go.Operand.tmp 42], argTypes := #[9, 9] }, type := 3, pos := "ref.go:139", after := #[{ on := 8, ground := Go.Ground.data }, { on := 13, ground := Go.Ground.data }, { on := 4, ground := Go.Ground.chain }, { on := 4, ground := Go.Ground.guard }], guard := some (4, true) }) rfl (fun K' hK' => ?_) AllReadyH.nil)
          go_simp
          with_reducible refine (HC2.out _).mono ?_
          rintro e wA ⟨rfl, hdA⟩
          have hbA' := (Bw.drew (Below.refl _ wr)).then hdA.bw
          try dsimp only
          refine hK'.out _ _ ?_ (fun hHeld => ?_)
          · exact K0 _ hbA'
          clear hK' K'
          try simp only [Act.put, List.setIfInBounds_toArray, List.set_cons_zero, List.set_cons_succ]
          refine wpAnyH_take (i := 15) (oi := { dst := some 44, op := Go.Op.binOp Go.BinOp.lss 3 (Go.Operand.tmp 43) (Go.Operand.const (Go.Value.int Go.IntKind.i64 0)) 3, type := 4, pos := "ref.go:139", after := #[{ on := 14, ground := Go.Ground.data }, { on := 4, ground := Go.Ground.guard }], guard := some (4, true) }) (v := Value.bool false) rfl (by kernel_rfl) (by kernel_rfl) (by kernel_rfl) (fun _ _ _ h => h) (Or.inl ⟨by rfl, ?hy31⟩) (by assumption) ?_
          case hy31 => (intro w hSw; (try dsimp only at hSw); go_simp)
          try simp only [Act.put, List.setIfInBounds_toArray, List.set_cons_zero, List.set_cons_succ]
          refine wpAnyH_take (i := 16) (oi := { dst := some 45, op := Go.Op.pick (Go.Operand.tmp 33) (Go.Operand.tmp 44) (Go.Operand.const (Go.Value.bool false)), type := 4, pos := "ref.go:139", after := #[{ on := 4, ground := Go.Ground.data }, { on := 15, ground := Go.Ground.data }], guard := none }) (v := ?v32) rfl (by kernel_rfl) (by kernel_rfl) (by kernel_rfl) (fun _ _ _ h => h) (Or.inl ⟨by rfl, ?hy32⟩) (by assumption) ?_
          case hy32 => (intro w hSw; (try dsimp only at hSw); go_simp; try with_reducible rfl)
          try simp only [Act.put, List.setIfInBounds_toArray, List.set_cons_zero, List.set_cons_succ]
          refine wpAnyH_done (by kernel_rfl) ?_ _
          have hT0 : Bw wr wA := hbA'
          have hAA := hA.after (hdp.then hT0)
          have K1 : ∀ W, Bw wA W → (W.cell? ⟨gA, p, none⟩ = some (.string z) ∧ W.cell? ⟨bb, off + k * 2 + 1, none⟩ = some (.string y.2)) := fun W kk => K0 W (hT0.then kk)
          by_cases hzy : z = y.2
          · have hstr : (z.toList == y.2.toList) = true := by rw [hzy]; exact str_eq _
            have hhit := Lib.hid (insS_hit out p hlo.out (by rw [← hzy]; exact hz.out))
            clear HC2 HGE hlt2 hqd hzy
            go_wp2_with fail
            refine wp_region_held_drew (S := fun u => u.cell? ⟨gA, p, none⟩ = some (.string z) ∧ u.cell? ⟨bb, off + k * 2 + 1, none⟩ = some (.string y.2)) (by kernel_rfl) ?_ (fun hHeld => ?_)
            · exact K1 _ (Bw.drew (Below.refl _ _))
            refine wpAnyH_take (i := 0) (oi := { dst := some 48, op := Go.Op.move (Go.Operand.tmp 7), type := 3, pos := "ref.go:142", after := #[], guard := none }) (v := ?v39) rfl (by kernel_rfl) (by kernel_rfl) (by kernel_rfl) (fun _ _ _ h => h) (Or.inl ⟨by rfl, ?hy39⟩) (by assumption) ?_
            case hy39 => (intro w hSw; (try dsimp only at hSw); go_simp; try with_reducible rfl)
            try simp only [Act.put, List.setIfInBounds_toArray, List.set_cons_zero, List.set_cons_succ]
            refine wpAnyH_take (i := 1) (oi := { dst := some 49, op := Go.Op.move (Go.Operand.tmp 5), type := 39, pos := "ref.go:142", after := #[], guard := none }) (v := ?v40) rfl (by kernel_rfl) (by kernel_rfl) (by kernel_rfl) (fun _ _ _ h => h) (Or.inl ⟨by rfl, ?hy40⟩) (by assumption) ?_
            case hy40 => (intro w hSw; (try dsimp only at hSw); go_simp; try with_reducible rfl)
            try simp only [Act.put, List.setIfInBounds_toArray, List.set_cons_zero, List.set_cons_succ]
            refine wpAnyH_take (i := 2) (oi := { dst := some 50, op := Go.Op.call { callee := Go.Callee.builtin Go.Builtin.len, args := #[Go.Operand.tmp 49], argTypes := #[39] }, type := 3, pos := "ref.go:142", after := #[{ on := 1, ground := Go.Ground.data }], guard := none }) (v := ?v41) rfl (by kernel_rfl) (by kernel_rfl) (by kernel_rfl) (fun _ _ _ h => h) (Or.inl ⟨by rfl, ?hy41⟩) (by assumption) ?_
            case hy41 => (intro w hSw; (try dsimp only at hSw); go_simp; try with_reducible rfl)
            try simp only [Act.put, List.setIfInBounds_toArray, List.set_cons_zero, List.set_cons_succ]
            refine wpAnyH_take (i := 3) (oi := { dst := some 51, op := Go.Op.binOp Go.BinOp.lss 3 (Go.Operand.tmp 48) (Go.Operand.tmp 50) 3, type := 4, pos := "ref.go:142", after := #[{ on := 0, ground := Go.Ground.data }, { on := 2, ground := Go.Ground.data }], guard := none }) (v := Value.bool true) rfl (by kernel_rfl) (by kernel_rfl) (by kernel_rfl) (fun _ _ _ h => h) (Or.inl ⟨by rfl, ?hy42⟩) (by assumption) ?_
            case hy42 => (intro w hSw; (try dsimp only at hSw); go_simp)
            try simp only [Act.put, List.setIfInBounds_toArray, List.set_cons_zero, List.set_cons_succ]
            refine wpAnyH_take (i := 4) (oi := { dst := some 52, op := Go.Op.move (Go.Operand.tmp 51), type := 4, pos := "ref.go:142", after := #[{ on := 3, ground := Go.Ground.data }], guard := none }) (v := ?v43) rfl (by kernel_rfl) (by kernel_rfl) (by kernel_rfl) (fun _ _ _ h => h) (Or.inl ⟨by rfl, ?hy43⟩) (by assumption) ?_
            case hy43 => (intro w hSw; (try dsimp only at hSw); go_simp; try with_reducible rfl)
            try simp only [Act.put, List.setIfInBounds_toArray, List.set_cons_zero, List.set_cons_succ]
            refine wpAnyH_take (i := 5) (oi := { dst := some 53, op := Go.Op.move (Go.Operand.tmp 5), type := 39, pos := "ref.go:142", after := #[{ on := 4, ground := Go.Ground.guard }], guard := some (4, true) }) (v := ?v44) rfl (by kernel_rfl) (by kernel_rfl) (by kernel_rfl) (fun _ _ _ h => h) (Or.inl ⟨by rfl, ?hy44⟩) (by assumption) ?_
            case hy44 => (intro w hSw; (try dsimp only at hSw); go_simp; try with_reducible rfl)
            try simp only [Act.put, List.setIfInBounds_toArray, List.set_cons_zero, List.set_cons_succ]
            refine wpAnyH_take (i := 6) (oi := { dst := some 54, op := Go.Op.move (Go.Operand.tmp 7), type := 3, pos := "ref.go:142", after := #[{ on := 4, ground := Go.Ground.guard }], guard := some (4, true) }) (v := ?v45) rfl (by kernel_rfl) (by kernel_rfl) (by kernel_rfl) (fun _ _ _ h => h) (Or.inl ⟨by rfl, ?hy45⟩) (by assumption) ?_
            case hy45 => (intro w hSw; (try dsimp only at hSw); go_simp; try with_reducible rfl)
            try simp only [Act.put, List.setIfInBounds_toArray, List.set_cons_zero, List.set_cons_succ]
            refine wpAnyH_take (i := 7) (oi := { dst := some 55, op := Go.Op.indexAddr 39 (Go.Operand.tmp 53) (Go.Operand.tmp 54), type := 0, pos := "ref.go:142", after := #[{ on := 5, ground := Go.Ground.data }, { on := 6, ground := Go.Ground.data }, { on := 4, ground := Go.Ground.guard }], guard := some (4, true) }) (v := ?v46) rfl (by kernel_rfl) (by kernel_rfl) (by kernel_rfl) (fun _ _ _ h => h) (Or.inl ⟨by rfl, ?hy46⟩) (by assumption) ?_
            case hy46 => (intro w hSw; (try dsimp only at hSw); go_simp; try with_reducible rfl)
            try simp only [Act.put, List.setIfInBounds_toArray, List.set_cons_zero, List.set_cons_succ]
            refine wpAnyH_take (i := 8) (oi := { dst := some 56, op := Go.Op.load 9 (Go.Operand.tmp 55), type := 9, pos := "ref.go:142", after := #[{ on := 7, ground := Go.Ground.data }, { on := 4, ground := Go.Ground.guard }], guard := some (4, true) }) (v := ?v47) rfl (by kernel_rfl) (by kernel_rfl) (by kernel_rfl) (fun _ _ _ h => h) (Or.inl ⟨by rfl, ?hy47⟩) (by assumption) ?_
            case hy47 => (intro w hSw; (try dsimp only at hSw); go_simp; try with_reducible rfl)
            try simp only [Act.put, List.setIfInBounds_toArray, List.set_cons_zero, List.set_cons_succ]
            refine wpAnyH_take (i := 9) (oi := { dst := some 57, op := Go.Op.move (Go.Operand.tmp 0), type := 22, pos := "ref.go:142", after := #[{ on := 4, ground := Go.Ground.guard }], guard := some (4, true) }) (v := ?v48) rfl (by kernel_rfl) (by kernel_rfl) (by kernel_rfl) (fun _ _ _ h => h) (Or.inl ⟨by rfl, ?hy48⟩) (by assumption) ?_
            case hy48 => (intro w hSw; (try dsimp only at hSw); go_simp; try with_reducible rfl)
            try simp only [Act.put, List.setIfInBounds_toArray, List.set_cons_zero, List.set_cons_succ]
            refine wpAnyH_take (i := 10) (oi := { dst := some 58, op := Go.Op.move (Go.Operand.tmp 6), type := 3, pos := "ref.go:142", after := #[{ on := 4, ground := Go.Ground.guard }], guard := some (4, true) }) (v := ?v49) rfl (by kernel_rfl) (by kernel_rfl) (by kernel_rfl) (fun _ _ _ h => h) (Or.inl ⟨by rfl, ?hy49⟩) (by assumption) ?_
            case hy49 => (intro w hSw; (try dsimp only at hSw); go_simp; try with_reducible rfl)
            try simp only [Act.put, List.setIfInBounds_toArray, List.set_cons_zero, List.set_cons_succ]
            refine wpAnyH_take (i := 11) (oi := { dst := some 59, op := Go.Op.indexAddr 22 (Go.Operand.tmp 57) (Go.Operand.tmp 58), type := 0, pos := "ref.go:142", after := #[{ on := 9, ground := Go.Ground.data }, { on := 10, ground := Go.Ground.data }, { on := 4, ground := Go.Ground.guard }], guard := some (4, true) }) (v := ?v50) rfl (by kernel_rfl) (by kernel_rfl) (by kernel_rfl) (fun _ _ _ h => h) (Or.inl ⟨by rfl, ?hy50⟩) (by assumption) ?_
            case hy50 => (intro w hSw; (try dsimp only at hSw); go_simp; try with_reducible rfl)
            try simp only [Act.put, List.setIfInBounds_toArray, List.set_cons_zero, List.set_cons_succ]
            refine wpAnyH_take (i := 12) (oi := { dst := some 60, op := Go.Op.fieldAddr 27 (Go.Operand.tmp 59) 1, type := 0, pos := "ref.go:142", after := #[{ on := 11, ground := Go.Ground.data }, { on := 4, ground := Go.Ground.guard }], guard := some (4, true) }) (v := ?v51) rfl (by kernel_rfl) (by kernel_rfl) (by kernel_rfl) (fun _ _ _ h => h) (Or.inl ⟨by rfl, ?hy51⟩) (by assumption) ?_
            case hy51 => (intro w hSw; (try dsimp only at hSw); go_simp; try with_reducible rfl)
            try simp only [Act.put, List.setIfInBounds_toArray, List.set_cons_zero, List.set_cons_succ]
            refine wpAnyH_take (i := 13) (oi := { dst := some 61, op := Go.Op.load 9 (Go.Operand.tmp 60), type := 9, pos := "ref.go:142", after := #[{ on := 12, ground := Go.Ground.data }, { on := 4, ground := Go.Ground.guard }], guard := some (4, true) }) (v := ?v52) rfl (by kernel_rfl) (by kernel_rfl) (by kernel_rfl) (fun _ _ _ h => h) (Or.inl ⟨by rfl, ?hy52⟩) (by assumption) ?_
            case hy52 => (intro w hSw; (try dsimp only at hSw); go_simp; try with_reducible rfl)
            try simp only [Act.put, List.setIfInBounds_toArray, List.set_cons_zero, List.set_cons_succ]
            refine wpAnyH_take (i := 14) (oi := { dst := some 62, op := Go.Op.binOp Go.BinOp.eql 9 (Go.Operand.tmp 56) (Go.Operand.tmp 61) 9, type := 4, pos := "ref.go:142", after := #[{ on := 8, ground := Go.Ground.data }, { on := 13, ground := Go.Ground.data }, { on := 4, ground := Go.Ground.guard }], guard := some (4, true) }) (v := Value.bool true) rfl (by kernel_rfl) (by kernel_rfl) (by kernel_rfl) (fun _ _ _ h => h) (Or.inl ⟨by rfl, ?hy53⟩) (by assumption) ?_
            case hy53 => (intro w hSw; (try dsimp only at hSw); go_simp)
            try simp only [Act.put, List.setIfInBounds_toArray, List.set_cons_zero, List.set_cons_succ]
            refine wpAnyH_take (i := 15) (oi := { dst := some 63, op := Go.Op.pick (Go.Operand.tmp 52) (Go.Operand.tmp 62) (Go.Operand.const (Go.Value.bool false)), type := 4, pos := "ref.go:142", after := #[{ on := 4, ground := Go.Ground.data }, { on := 14, ground := Go.Ground.data }], guard := none }) (v := ?v54) rfl (by kernel_rfl) (by kernel_rfl) (by kernel_rfl) (fun _ _ _ h => h) (Or.inl ⟨by rfl, ?hy54⟩) (by assumption) ?_
            case hy54 => (intro w hSw; (try dsimp only at hSw); go_simp; try with_reducible rfl)
            try simp only [Act.put, List.setIfInBounds_toArray, List.set_cons_zero, List.set_cons_succ]
            refine wpAnyH_done (by kernel_rfl) ?_ _
            have hAB := hAA.after (Below.refl _ _).drew
            have hdB := (hdw.then (hdp.then hT0)).drew
            rw [← hhit.out, ← hsn.out] at hAB
            clear hAA K0 K1
            go_wp2_with fail
            exact ⟨⟨k + 1, hlt, by go_num, hdB, hAB, HNO.out⟩, by simp [intOf]; omega⟩
          · have hstr := str_ne hzy
            have hins := insS_mid out p (by have := hn.out; omega) hlo.out (fun y' hgz => by rw [hz.out] at hgz; injection hgz with hgz; subst hgz; exact ⟨by have := HGE.out; omega, hzy⟩)
            have HINS := Lib.hid hins
            clear HC2 HGE hlt2 hqd hins
            go_wp2_with fail
            refine wp_region_held_drew (S := fun u => u.cell? ⟨gA, p, none⟩ = some (.string z) ∧ u.cell? ⟨bb, off + k * 2 + 1, none⟩ = some (.string y.2)) (by kernel_rfl) ?_ (fun hHeld => ?_)
            · exact K1 _ (Bw.drew (Below.refl _ _))
            refine wpAnyH_take (i := 0) (oi := { dst := some 48, op := Go.Op.move (Go.Operand.tmp 7), type := 3, pos := "ref.go:142", after := #[], guard := none }) (v := ?v55) rfl (by kernel_rfl) (by kernel_rfl) (by kernel_rfl) (fun _ _ _ h => h) (Or.inl ⟨by rfl, ?hy55⟩) (by assumption) ?_
            case hy55 => (intro w hSw; (try dsimp only at hSw); go_simp; try with_reducible rfl)
            try simp only [Act.put, List.setIfInBounds_toArray, List.set_cons_zero, List.set_cons_succ]
            refine wpAnyH_take (i := 1) (oi := { dst := some 49, op := Go.Op.move (Go.Operand.tmp 5), type := 39, pos := "ref.go:142", after := #[], guard := none }) (v := ?v56) rfl (by kernel_rfl) (by kernel_rfl) (by kernel_rfl) (fun _ _ _ h => h) (Or.inl ⟨by rfl, ?hy56⟩) (by assumption) ?_
            case hy56 => (intro w hSw; (try dsimp only at hSw); go_simp; try with_reducible rfl)
            try simp only [Act.put, List.setIfInBounds_toArray, List.set_cons_zero, List.set_cons_succ]
            refine wpAnyH_take (i := 2) (oi := { dst := some 50, op := Go.Op.call { callee := Go.Callee.builtin Go.Builtin.len, args := #[Go.Operand.tmp 49], argTypes := #[39] }, type := 3, pos := "ref.go:142", after := #[{ on := 1, ground := Go.Ground.data }], guard := none }) (v := ?v57) rfl (by kernel_rfl) (by kernel_rfl) (by kernel_rfl) (fun _ _ _ h => h) (Or.inl ⟨by rfl, ?hy57⟩) (by assumption) ?_
            case hy57 => (intro w hSw; (try dsimp only at hSw); go_simp; try with_reducible rfl)
            try simp only [Act.put, List.setIfInBounds_toArray, List.set_cons_zero, List.set_cons_succ]
            refine wpAnyH_take (i := 3) (oi := { dst := some 51, op := Go.Op.binOp Go.BinOp.lss 3 (Go.Operand.tmp 48) (Go.Operand.tmp 50) 3, type := 4, pos := "ref.go:142", after := #[{ on := 0, ground := Go.Ground.data }, { on := 2, ground := Go.Ground.data }], guard := none }) (v := Value.bool true) rfl (by kernel_rfl) (by kernel_rfl) (by kernel_rfl) (fun _ _ _ h => h) (Or.inl ⟨by rfl, ?hy58⟩) (by assumption) ?_
            case hy58 => (intro w hSw; (try dsimp only at hSw); go_simp)
            try simp only [Act.put, List.setIfInBounds_toArray, List.set_cons_zero, List.set_cons_succ]
            refine wpAnyH_take (i := 4) (oi := { dst := some 52, op := Go.Op.move (Go.Operand.tmp 51), type := 4, pos := "ref.go:142", after := #[{ on := 3, ground := Go.Ground.data }], guard := none }) (v := ?v59) rfl (by kernel_rfl) (by kernel_rfl) (by kernel_rfl) (fun _ _ _ h => h) (Or.inl ⟨by rfl, ?hy59⟩) (by assumption) ?_
            case hy59 => (intro w hSw; (try dsimp only at hSw); go_simp; try with_reducible rfl)
            try simp only [Act.put, List.setIfInBounds_toArray, List.set_cons_zero, List.set_cons_succ]
            refine wpAnyH_take (i := 5) (oi := { dst := some 53, op := Go.Op.move (Go.Operand.tmp 5), type := 39, pos := "ref.go:142", after := #[{ on := 4, ground := Go.Ground.guard }], guard := some (4, true) }) (v := ?v60) rfl (by kernel_rfl) (by kernel_rfl) (by kernel_rfl) (fun _ _ _ h => h) (Or.inl ⟨by rfl, ?hy60⟩) (by assumption) ?_
            case hy60 => (intro w hSw; (try dsimp only at hSw); go_simp; try with_reducible rfl)
            try simp only [Act.put, List.setIfInBounds_toArray, List.set_cons_zero, List.set_cons_succ]
            refine wpAnyH_take (i := 6) (oi := { dst := some 54, op := Go.Op.move (Go.Operand.tmp 7), type := 3, pos := "ref.go:142", after := #[{ on := 4, ground := Go.Ground.guard }], guard := some (4, true) }) (v := ?v61) rfl (by kernel_rfl) (by kernel_rfl) (by kernel_rfl) (fun _ _ _ h => h) (Or.inl ⟨by rfl, ?hy61⟩) (by assumption) ?_
            case hy61 => (intro w hSw; (try dsimp only at hSw); go_simp; try with_reducible rfl)
            try simp only [Act.put, List.setIfInBounds_toArray, List.set_cons_zero, List.set_cons_succ]
            refine wpAnyH_take (i := 7) (oi := { dst := some 55, op := Go.Op.indexAddr 39 (Go.Operand.tmp 53) (Go.Operand.tmp 54), type := 0, pos := "ref.go:142", after := #[{ on := 5, ground := Go.Ground.data }, { on := 6, ground := Go.Ground.data }, { on := 4, ground := Go.Ground.guard }], guard := some (4, true) }) (v := ?v62) rfl (by kernel_rfl) (by kernel_rfl) (by kernel_rfl) (fun _ _ _ h => h) (Or.inl ⟨by rfl, ?hy62⟩) (by assumption) ?_
            case hy62 => (intro w hSw; (try dsimp only at hSw); go_simp; try with_reducible rfl)
            try simp only [Act.put, List.setIfInBounds_toArray, List.set_cons_zero, List.set_cons_succ]
            refine wpAnyH_take (i := 8) (oi := { dst := some 56, op := Go.Op.load 9 (Go.Operand.tmp 55), type := 9, pos := "ref.go:142", after := #[{ on := 7, ground := Go.Ground.data }, { on := 4, ground := Go.Ground.guard }], guard := some (4, true) }) (v := ?v63) rfl (by kernel_rfl) (by kernel_rfl) (by kernel_rfl) (fun _ _ _ h => h) (Or.inl ⟨by rfl, ?hy63⟩) (by assumption) ?_
            case hy63 => (intro w hSw; (try dsimp only at hSw); go_simp; try with_reducible rfl)
            try simp only [Act.put, List.setIfInBounds_toArray, List.set_cons_zero, List.set_cons_succ]
            refine wpAnyH_take (i := 9) (oi := { dst := some 57, op := Go.Op.move (Go.Operand.tmp 0), type := 22, pos := "ref.go:142", after := #[{ on := 4, ground := Go.Ground.guard }], guard := some (4, true) }) (v := ?v64) rfl (by kernel_rfl) (by kernel_rfl) (by kernel_rfl) (fun _ _ _ h => h) (Or.inl ⟨by rfl, ?hy64⟩) (by assumption) ?_
            case hy64 => (intro w hSw; (try dsimp only at hSw); go_simp; try with_reducible rfl)
            try simp only [Act.put, List.setIfInBounds_toArray, List.set_cons_zero, List.set_cons_succ]
            refine wpAnyH_take (i := 10) (oi := { dst := some 58, op := Go.Op.move (Go.Operand.tmp 6), type := 3, pos := "ref.go:142", after := #[{ on := 4, ground := Go.Ground.guard }], guard := some (4, true) }) (v := ?v65) rfl (by kernel_rfl) (by kernel_rfl) (by kernel_rfl) (fun _ _ _ h => h) (Or.inl ⟨by rfl, ?hy65⟩) (by assumption) ?_
            case hy65 => (intro w hSw; (try dsimp only at hSw); go_simp; try with_reducible rfl)
            try simp only [Act.put, List.setIfInBounds_toArray, List.set_cons_zero, List.set_cons_succ]
            refine wpAnyH_take (i := 11) (oi := { dst := some 59, op := Go.Op.indexAddr 22 (Go.Operand.tmp 57) (Go.Operand.tmp 58), type := 0, pos := "ref.go:142", after := #[{ on := 9, ground := Go.Ground.data }, { on := 10, ground := Go.Ground.data }, { on := 4, ground := Go.Ground.guard }], guard := some (4, true) }) (v := ?v66) rfl (by kernel_rfl) (by kernel_rfl) (by kernel_rfl) (fun _ _ _ h => h) (Or.inl ⟨by rfl, ?hy66⟩) (by assumption) ?_
            case hy66 => (intro w hSw; (try dsimp only at hSw); go_simp; try with_reducible rfl)
            try simp only [Act.put, List.setIfInBounds_toArray, List.set_cons_zero, List.set_cons_succ]
            refine wpAnyH_take (i := 12) (oi := { dst := some 60, op := Go.Op.fieldAddr 27 (Go.Operand.tmp 59) 1, type := 0, pos := "ref.go:142", after := #[{ on := 11, ground := Go.Ground.data }, { on := 4, ground := Go.Ground.guard }], guard := some (4, true) }) (v := ?v67) rfl (by kernel_rfl) (by kernel_rfl) (by kernel_rfl) (fun _ _ _ h => h) (Or.inl ⟨by rfl, ?hy67⟩) (by assumption) ?_
            case hy67 => (intro w hSw; (try dsimp only at hSw); go_simp; try with_reducible rfl)
            try simp only [Act.put, List.setIfInBounds_toArray, List.set_cons_zero, List.set_cons_succ]
            refine wpAnyH_take (i := 13) (oi := { dst := some 61, op := Go.Op.load 9 (Go.Operand.tmp 60), type := 9, pos := "ref.go:142", after := #[{ on := 12, ground := Go.Ground.data }, { on := 4, ground := Go.Ground.guard }], guard := some (4, true) }) (v := ?v68) rfl (by kernel_rfl) (by kernel_rfl) (by kernel_rfl) (fun _ _ _ h => h) (Or.inl ⟨by rfl, ?hy68⟩) (by assumption) ?_
            case hy68 => (intro w hSw; (try dsimp only at hSw); go_simp; try with_reducible rfl)
            try simp only [Act.put, List.setIfInBounds_toArray, List.set_cons_zero, List.set_cons_succ]
            refine wpAnyH_take (i := 14) (oi := { dst := some 62, op := Go.Op.binOp Go.BinOp.eql 9 (Go.Operand.tmp 56) (Go.Operand.tmp 61) 9, type := 4, pos := "ref.go:142", after := #[{ on := 8, ground := Go.Ground.data }, { on := 13, ground := Go.Ground.data }, { on := 4, ground := Go.Ground.guard }], guard := some (4, true) }) (v := Value.bool false) rfl (by kernel_rfl) (by kernel_rfl) (by kernel_rfl) (fun _ _ _ h => h) (Or.inl ⟨by rfl, ?hy69⟩) (by assumption) ?_
            case hy69 => (intro w hSw; (try dsimp only at hSw); go_simp)
            try simp only [Act.put, List.setIfInBounds_toArray, List.set_cons_zero, List.set_cons_succ]
            refine wpAnyH_take (i := 15) (oi := { dst := some 63, op := Go.Op.pick (Go.Operand.tmp 52) (Go.Operand.tmp 62) (Go.Operand.const (Go.Value.bool false)), type := 4, pos := "ref.go:142", after := #[{ on := 4, ground := Go.Ground.data }, { on := 14, ground := Go.Ground.data }], guard := none }) (v := ?v70) rfl (by kernel_rfl) (by kernel_rfl) (by kernel_rfl) (fun _ _ _ h => h) (Or.inl ⟨by rfl, ?hy70⟩) (by assumption) ?_
            case hy70 => (intro w hSw; (try dsimp only at hSw); go_simp; try with_reducible rfl)
            try simp only [Act.put, List.setIfInBounds_toArray, List.set_cons_zero, List.set_cons_succ]
            refine wpAnyH_done (by kernel_rfl) ?_ _
            have hAT := hAA.after (Below.refl _ _).drew
            have hbT := (hdw.then (hdp.then hT0)).drew
            obtain ⟨wT, hwT⟩ : ∃ wT, wT = wA.drew := ⟨_, rfl⟩
            rw [← hwT] at hAT hbT
            simp only [← hwT]
            clear hwT hAA K0 K1 hA
            have hAT2 := hAT.alloc (.cells #[.string ⟨#[]⟩] 9)
            have hown := hAT.own
            have hszb : w.heap.size ≤ (wT.alloc (.cells #[.string ⟨#[]⟩] 9)).heap.size := by have := hbT.size; rw [sz_alloc]; omega
            clear hAT hlo
            go_wp2_with (at_builtin; refine wpList_app_one (T := tStr) rfl _ _ rfl Tryd.underlying39 hi hz0 hz1 hz2 rfl rfl hAT2 rfl (at_new rfl) ⟨rfl, by decide⟩ (by rw [← hn.out]; simp [maxLen]; omega) (by rw [← hn.out]; omega) hszb ?_; intro v7 w7 hA7 hg7 hat7; obtain ⟨A7, n7, c7, rfl, _, _, hn7⟩ := hA7.sl.form'; have hn7i : (n7 : Int) - 1 = (n : Int) := by have h1 := hn7.out; rw [List.length_append, List.length_singleton, ← hn.out] at h1; omega)
            have hn7n : n < n7 := by omega
            obtain ⟨gB, rfl, hgB1, hgB2⟩ := hA7.addr (k := n) hn7n
            have hb7 : Bw w w7 := Acc.bw (bw_al hbT _) hg7 (fun g e => (hown g e).1) (Nat.le_refl _)
            have hgn : out.length = n := hn.out.symm
            have hA7 : Acc tStr 9 w7 w.heap.size (.slice (some ⟨gB, 0, none⟩) n7 c7) (shL out ⟨#[]⟩ n) := by rw [← hgn, shL_top]; exact hA7
            clear hat7 hg7 hAT2 hown hszb hbT
            go_loopw [8] (fun i wq => ∃ q : Nat, p ≤ q ∧ q ≤ n ∧ i = .int .i64 q ∧ w7.grownBy wq (some gB) ∧ Acc tStr 9 wq w.heap.size (.slice (some ⟨gB, 0, none⟩) n7 c7) (shL out ⟨#[]⟩ q)) (fun i _ => (intOf i).toNat)
            case atStart => exact ⟨n, by omega, Nat.le_refl _, rfl, ⟨rfl, rfl, rfl, Nat.le_refl _, fun _ _ _ => rfl⟩, hA7⟩
            case round =>
              obtain ⟨q, hpq, hqn, rfl, hgr, hAk⟩ := hrel
              have fz := hAk.frozen q
              obtain ⟨zq, hzq, _, q0⟩ := hAk.str' (k := q) (by omega)
              have hqn7 : q < n7 := by omega
              by_cases hlt3 : p < q
              · obtain ⟨j, hkj⟩ : ∃ j, q = j + 1 := ⟨q - 1, by omega⟩
                have hkji : (q : Int) - 1 = (j : Int) := by omega
                have hjn : j < n7 := by omega
                obtain ⟨zj, hzj, hzjs, f1⟩ := hAk.str' (k := j) hjn
                have hgj : Hid (out[j]? = some zj) := by
                  have h8 := hzj.out
                  rw [hkj] at h8
                  have h9 := List.getElem?_eq_getElem (l := out) (i := j) (by omega)
                  rw [shL_read (by omega) h9] at h8
                  injection h8 with h8
                  rw [← h8]; exact h9
                have HP := Lib.hid (hAk.put_str (k := q) (y := zj) hzq.out hzjs)
                have hst : Hid ((shL out ⟨#[]⟩ q).set q zj = shL out ⟨#[]⟩ j) := by
                  show _ = _
                  rw [hkj]; exact shL_step (by omega) hgj.out
                have hpj : p ≤ j := by omega
                have hjn2 : j ≤ n := by omega
                have hjk : j < q := by omega
                clear hkj hAk
                go_wp2_with fail
                have HP := HP.out
                rw [hst.out] at HP
                first | exact ⟨⟨j, hpj, hjn2, by go_num, grown_trans hgr HP.2, HP.1⟩, by simp [intOf]; omega⟩ | (exfalso; omega)
              · have hkp : q = p := by omega
                subst hkp
                have hbq : Bw w wr := bw_grown hb7 hgr hgB1
                have e1 := E1.out _ hbq
                have HP := Lib.hid (hAk.put_str (k := q) (y := y.2) hzq.out (by simpa [maxLen] using hys))
                have hend : Hid ((shL out ⟨#[]⟩ q).set q y.2 = wholeE (tagsOf (l.take (k + 1)) x)) := by
                  show _ = _
                  rw [hsn.out, HINS.out]
                  apply List.ext_getElem?
                  intro i
                  rw [← shL_end (g := out) (e := y.2) (i := q) (by omega), List.getElem?_set, List.getElem?_set, shL_len (by omega), shL_len (by omega), shL_at (by omega), shL_at (by omega)]
                  by_cases hi1 : q = i
                  · rw [if_pos hi1, if_pos hi1]
                  · rw [if_neg hi1, if_neg hi1]
                    by_cases hi2 : i ≤ q
                    · rw [if_pos hi2, if_pos hi2, List.getElem?_append_left (by omega), List.getElem?_append_left (by omega)]
                    · rw [if_neg hi2, if_neg hi2]
                clear hAk
                go_wp2_with fail
                have HP := HP.out
                rw [hend.out] at HP
                exact ⟨⟨k + 1, hlt, by go_num, bw_grown hbq HP.2 hgB1, HP.1, HNO.out⟩, by simp [intOf]; omega⟩
      · have hpni : ¬ (p : Int) < (n : Int) := by omega
        have hpn2 : n ≤ p := by omega
        have hins := insS_mid (t := y.2) out p (by have := hn.out; omega) hlo.out (fun y' hgz => absurd (List.getElem?_eq_some_iff.1 hgz).1 (by have := hn.out; omega))
        have HINS := Lib.hid hins
        clear hins hpn
        go_wp2_with fail
        refine wp_region_held_drew (S := fun _ => True) (by kernel_rfl) trivial (fun hHeld => ?_)
        refine wpAnyH_take (i := 0) (oi := { dst := some 29, op := Go.Op.move (Go.Operand.tmp 7), type := 3, pos := "ref.go:139", after := #[], guard := none }) (v := ?v33) rfl (by kernel_rfl) (by kernel_rfl) (by kernel_rfl) (fun _ _ _ h => h) (Or.inl ⟨by rfl, ?hy33⟩) (by assumption) ?_
        case hy33 => (intro w hSw; (try dsimp only at hSw); go_simp; try with_reducible rfl)
        try simp only [Act.put, List.setIfInBounds_toArray, List.set_cons_zero, List.set_cons_succ]
        refine wpAnyH_take (i := 1) (oi := { dst := some 30, op := Go.Op.move (Go.Operand.tmp 5), type := 39, pos := "ref.go:139", after := #[], guard := none }) (v := ?v34) rfl (by kernel_rfl) (by kernel_rfl) (by kernel_rfl) (fun _ _ _ h => h) (Or.inl ⟨by rfl, ?hy34⟩) (by assumption) ?_
        case hy34 => (intro w hSw; (try dsimp only at hSw); go_simp; try with_reducible rfl)
        try simp only [Act.put, List.setIfInBounds_toArray, List.set_cons_zero, List.set_cons_succ]
        refine wpAnyH_take (i := 2) (oi := { dst := some 31, op := Go.Op.call { callee := Go.Callee.builtin Go.Builtin.len, args := #[Go.Operand.tmp 30], argTypes := #[39] }, type := 3, pos := "ref.go:139", after := #[{ on := 1, ground := Go.Ground.data }], guard := none }) (v := ?v35) rfl (by kernel_rfl) (by kernel_rfl) (by kernel_rfl) (fun _ _ _ h => h) (Or.inl ⟨by rfl, ?hy35⟩) (by assumption) ?_
        case hy35 => (intro w hSw; (try dsimp only at hSw); go_simp; try with_reducible rfl)
        try simp only [Act.put, List.setIfInBounds_toArray, List.set_cons_zero, List.set_cons_succ]
        refine wpAnyH_take (i := 3) (oi := { dst := some 32, op := Go.Op.binOp Go.BinOp.lss 3 (Go.Operand.tmp 29) (Go.Operand.tmp 31) 3, type := 4, pos := "ref.go:139", after := #[{ on := 0, ground := Go.Ground.data }, { on := 2, ground := Go.Ground.data }], guard := none }) (v := Value.bool false) rfl (by kernel_rfl) (by kernel_rfl) (by kernel_rfl) (fun _ _ _ h => h) (Or.inl ⟨by rfl, ?hy36⟩) (by assumption) ?_
        case hy36 => (intro w hSw; (try dsimp only at hSw); go_simp)
        try simp only [Act.put, List.setIfInBounds_toArray, List.set_cons_zero, List.set_cons_succ]
        refine wpAnyH_take (i := 4) (oi := { dst := some 33, op := Go.Op.move (Go.Operand.tmp 32), type := 4, pos := "ref.go:139", after := #[{ on := 3, ground := Go.Ground.data }], guard := none }) (v := ?v37) rfl (by kernel_rfl) (by kernel_rfl) (by kernel_rfl) (fun _ _ _ h => h) (Or.inl ⟨by rfl, ?hy37⟩) (by assumption) ?_
        case hy37 => (intro w hSw; (try dsimp only at hSw); go_simp; try with_reducible rfl)
        try simp only [Act.put, List.setIfInBounds_toArray, List.set_cons_zero, List.set_cons_succ]
        refine wpAnyH_take (i := 5) (oi := { dst := some 34, op := Go.Op.move (Go.Operand.tmp 5), type := 39, pos := "ref.go:139", after := #[{ on := 4, ground := Go.Ground.guard }], guard := some (4, true) }) (v := undef) rfl (by kernel_rfl) (by kernel_rfl) (by kernel_rfl) (fun _ _ _ h => h) (Or.inr ⟨by rfl, rfl⟩) (by assumption) ?_
        try simp only [Act.put, List.setIfInBounds_toArray, List.set_cons_zero, List.set_cons_succ]
        refine wpAnyH_take (i := 6) (oi := { dst := some 35, op := Go.Op.move (Go.Operand.tmp 7), type := 3, pos := "ref.go:139", after := #[{ on := 4, ground := Go.Ground.guard }], guard := some (4, true) }) (v := undef) rfl (by kernel_rfl) (by kernel_rfl) (by kernel_rfl) (fun _ _ _ h => h) (Or.inr ⟨by rfl, rfl⟩) (by assumption) ?_
        try simp only [Act.put, List.setIfInBounds_toArray, List.set_cons_zero, List.set_cons_succ]
        refine wpAnyH_take (i := 7) (oi := { dst := some 36, op := Go.Op.indexAddr 39 (Go.Operand.tmp 34) (Go.Operand.tmp 35), type := 0, pos := "ref.go:139", after := #[{ on := 5, ground := Go.Ground.data }, { on := 6, ground := Go.Ground.data }, { on := 4, ground := Go.Ground.guard }], guard := some (4, true) }) (v := undef) rfl (by kernel_rfl) (by kernel_rfl) (by kernel_rfl) (fun _ _ _ h => h) (Or.inr ⟨by rfl, rfl⟩) (by assumption) ?_
        try simp only [Act.put, List.setIfInBounds_toArray, List.set_cons_zero, List.set_cons_succ]
        refine wpAnyH_take (i := 8) (oi := { dst := some 37, op := Go.Op.load 9 (Go.Operand.tmp 36), type := 9, pos := "ref.go:139", after := #[{ on := 7, ground := Go.Ground.data }, { on := 4, ground := Go.Ground.guard }], guard := some (4, true) }) (v := undef) rfl (by kernel_rfl) (by kernel_rfl) (by kernel_rfl) (fun _ _ _ h => h) (Or.inr ⟨by rfl, rfl⟩) (by assumption) ?_
        try simp only [Act.put, List.setIfInBounds_toArray, List.set_cons_zero, List.set_cons_succ]
        refine wpAnyH_take (i := 9) (oi := { dst := some 38, op := Go.Op.move (Go.Operand.tmp 0), type := 22, pos := "ref.go:139", after := #[{ on := 4, ground := Go.Ground.guard }], guard := some (4, true) }) (v := undef) rfl (by kernel_rfl) (by kernel_rfl) (by kernel_rfl) (fun _ _ _ h => h) (Or.inr ⟨by rfl, rfl⟩) (by assumption) ?_
        try simp only [Act.put, List.setIfInBounds_toArray, List.set_cons_zero, List.set_cons_succ]
        refine wpAnyH_take (i := 10) (oi := { dst := some 39, op := Go.Op.move (Go.Operand.tmp 6), type := 3, pos := "ref.go:139", after := #[{ on := 4, ground := Go.Ground.guard }], guard := some (4, true) }) (v := undef) rfl (by kernel_rfl) (by kernel_rfl) (by kernel_rfl) (fun _ _ _ h => h) (Or.inr ⟨by rfl, rfl⟩) (by assumption) ?_
        try simp only [Act.put, List.setIfInBounds_toArray, List.set_cons_zero, List.set_cons_succ]
        refine wpAnyH_take (i := 11) (oi := { dst := some 40, op := Go.Op.indexAddr 22 (Go.Operand.tmp 38) (Go.Operand.tmp 39), type := 0, pos := "ref.go:139", after := #[{ on := 9, ground := Go.Ground.data }, { on := 10, ground := Go.Ground.data }, { on := 4, ground := Go.Ground.guard }], guard := some (4, true) }) (v := undef) rfl (by kernel_rfl) (by kernel_rfl) (by kernel_rfl) (fun _ _ _ h => h) (Or.inr ⟨by rfl, rfl⟩) (by assumption) ?_
        try simp only [Act.put, List.setIfInBounds_toArray, List.set_cons_zero, List.set_cons_succ]
        refine wpAnyH_take (i := 12) (oi := { dst := some 41, op := Go.Op.fieldAddr 27 (Go.Operand.tmp 40) 1, type := 0, pos := "ref.go:139", after := #[{ on := 11, ground := Go.Ground.data }, { on := 4, ground := Go.Ground.guard }], guard := some (4, true) }) (v := undef) rfl (by kernel_rfl) (by kernel_rfl) (by kernel_rfl) (fun _ _ _ h => h) (Or.inr ⟨by rfl, rfl⟩) (by assumption) ?_
        try simp only [Act.put, List.setIfInBounds_toArray, List.set_cons_zero, List.set_cons_succ]
        refine wpAnyH_take (i := 13) (oi := { dst := some 42, op := Go.Op.load 9 (Go.Operand.tmp 41), type := 9, pos := "ref.go:139", after := #[{ on := 12, ground := Go.Ground.data }, { on := 4, ground := Go.Ground.guard }], guard := some (4, true) }) (v := undef) rfl (by kernel_rfl) (by kernel_rfl) (by kernel_rfl) (fun _ _ _ h => h) (Or.inr ⟨by rfl, rfl⟩) (by assumption) ?_
        try simp only [Act.put, List.setIfInBounds_toArray, List.set_cons_zero, List.set_cons_succ]
        refine wpAnyH_take (i := 14) (oi := { dst := some 43, op := Go.Op.call { callee := Go.Callee.value (Go.Operand.func 39), args := #[Go.Operand.tmp 37, Go.Operand.tmp 42], argTypes := #[9, 9] }, type := 3, pos := "ref.go:139", after := #[{ on := 8, ground := Go.Ground.data }, { on := 13, ground := Go.Ground.data }, { on := 4, ground := Go.Ground.chain }, { on := 4, ground := Go.Ground.guard }], guard := some (4, true) }) (v := undef) rfl (by kernel_rfl) (by kernel_rfl) (by kernel_rfl) (fun _ _ _ h => h) (Or.inr ⟨by rfl, rfl⟩) (by assumption) ?_
        try simp only [Act.put, List.setIfInBounds_toArray, List.set_cons_zero, List.set_cons_succ]
        refine wpAnyH_take (i := 15) (oi := { dst := some 44, op := Go.Op.binOp Go.BinOp.lss 3 (Go.Operand.tmp 43) (Go.Operand.const (Go.Value.int Go.IntKind.i64 0)) 3, type := 4, pos := "ref.go:139", after := #[{ on := 14, ground := Go.Ground.data }, { on := 4, ground := Go.Ground.guard }], guard := some (4, true) }) (v := undef) rfl (by kernel_rfl) (by kernel_rfl) (by kernel_rfl) (fun _ _ _ h => h) (Or.inr ⟨by rfl, rfl⟩) (by assumption) ?_
        try simp only [Act.put, List.setIfInBounds_toArray, List.set_cons_zero, List.set_cons_succ]
        refine wpAnyH_take (i := 16) (oi := { dst := some 45, op := Go.Op.pick (Go.Operand.tmp 33) (Go.Operand.tmp 44) (Go.Operand.const (Go.Value.bool false)), type := 4, pos := "ref.go:139", after := #[{ on := 4, ground := Go.Ground.data }, { on := 15, ground := Go.Ground.data }], guard := none }) (v := ?v38) rfl (by kernel_rfl) (by kernel_rfl) (by kernel_rfl) (fun _ _ _ h => h) (Or.inl ⟨by rfl, ?hy38⟩) (by assumption) ?_
        case hy38 => (intro w hSw; (try dsimp only at hSw); go_simp; try with_reducible rfl)
        try simp only [Act.put, List.setIfInBounds_toArray, List.set_cons_zero, List.set_cons_succ]
        refine wpAnyH_done (by kernel_rfl) ?_ _
        go_wp2_with fail
        refine wp_region_held_drew (S := fun _ => True) (by kernel_rfl) trivial (fun hHeld => ?_)
        refine wpAnyH_take (i := 0) (oi := { dst := some 48, op := Go.Op.move (Go.Operand.tmp 7), type := 3, pos := "ref.go:142", after := #[], guard := none }) (v := ?v71) rfl (by kernel_rfl) (by kernel_rfl) (by kernel_rfl) (fun _ _ _ h => h) (Or.inl ⟨by rfl, ?hy71⟩) (by assumption) ?_
        case hy71 => (intro w hSw; (try dsimp only at hSw); go_simp; try with_reducible rfl)
        try simp only [Act.put, List.setIfInBounds_toArray, List.set_cons_zero, List.set_cons_succ]
        refine wpAnyH_take (i := 1) (oi := { dst := some 49, op := Go.Op.move (Go.Operand.tmp 5), type := 39, pos := "ref.go:142", after := #[], guard := none }) (v := ?v72) rfl (by kernel_rfl) (by kernel_rfl) (by kernel_rfl) (fun _ _ _ h => h) (Or.inl ⟨by rfl, ?hy72⟩) (by assumption) ?_
        case hy72 => (intro w hSw; (try dsimp only at hSw); go_simp; try with_reducible rfl)
        try simp only [Act.put, List.setIfInBounds_toArray, List.set_cons_zero, List.set_cons_succ]
        refine wpAnyH_take (i := 2) (oi := { dst := some 50, op := Go.Op.call { callee := Go.Callee.builtin Go.Builtin.len, args := #[Go.Operand.tmp 49], argTypes := #[39] }, type := 3, pos := "ref.go:142", after := #[{ on := 1, ground := Go.Ground.data }], guard := none }) (v := ?v73) rfl (by kernel_rfl) (by kernel_rfl) (by kernel_rfl) (fun _ _ _ h => h) (Or.inl ⟨by rfl, ?hy73⟩) (by assumption) ?_
        case hy73 => (intro w hSw; (try dsimp only at hSw); go_simp; try with_reducible rfl)
        try simp only [Act.put, List.setIfInBounds_toArray, List.set_cons_zero, List.set_cons_succ]
        refine wpAnyH_take (i := 3) (oi := { dst := some 51, op := Go.Op.binOp Go.BinOp.lss 3 (Go.Operand.tmp 48) (Go.Operand.tmp 50) 3, type := 4, pos := "ref.go:142", after := #[{ on := 0, ground := Go.Ground.data }, { on := 2, ground := Go.Ground.data }], guard := none }) (v := Value.bool false) rfl (by kernel_rfl) (by kernel_rfl) (by kernel_rfl) (fun _ _ _ h => h) (Or.inl ⟨by rfl, ?hy74⟩) (by assumption) ?_
        case hy74 => (intro w hSw; (try dsimp only at hSw); go_simp)
        try simp only [Act.put, List.setIfInBounds_toArray, List.set_cons_zero, List.set_cons_succ]
        refine wpAnyH_take (i := 4) (oi := { dst := some 52, op := Go.Op.move (Go.Operand.tmp 51), type := 4, pos := "ref.go:142", after := #[{ on := 3, ground := Go.Ground.data }], guard := none }) (v := ?v75) rfl (by kernel_rfl) (by kernel_rfl) (by kernel_rfl) (fun _ _ _ h => h) (Or.inl ⟨by rfl, ?hy75⟩) (by assumption) ?_
        case hy75 => (intro w hSw; (try dsimp only at hSw); go_simp; try with_reducible rfl)
        try simp only [Act.put, List.setIfInBounds_toArray, List.set_cons_zero, List.set_cons_succ]
        refine wpAnyH_take (i := 5) (oi := { dst := some 53, op := Go.Op.move (Go.Operand.tmp 5), type := 39, pos := "ref.go:142", after := #[{ on := 4, ground := Go.Ground.guard }], guard := some (4, true) }) (v := undef) rfl (by kernel_rfl) (by kernel_rfl) (by kernel_rfl) (fun _ _ _ h => h) (Or.inr ⟨by rfl, rfl⟩) (by assumption) ?_
        try simp only [Act.put, List.setIfInBounds_toArray, List.set_cons_zero, List.set_cons_succ]
        refine wpAnyH_take (i := 6) (oi := { dst := some 54, op := Go.Op.move (Go.Operand.tmp 7), type := 3, pos := "ref.go:142", after := #[{ on := 4, ground := Go.Ground.guard }], guard := some (4, true) }) (v := undef) rfl (by kernel_rfl) (by kernel_rfl) (by kernel_rfl) (fun _ _ _ h => h) (Or.inr ⟨by rfl, rfl⟩) (by assumption) ?_
        try simp only [Act.put, List.setIfInBounds_toArray, List.set_cons_zero, List.set_cons_succ]
        refine wpAnyH_take (i := 7) (oi := { dst := some 55, op := Go.Op.indexAddr 39 (Go.Operand.tmp 53) (Go.Operand.tmp 54), type := 0, pos := "ref.go:142", after := #[{ on := 5, ground := Go.Ground.data }, { on := 6, ground := Go.Ground.data }, { on := 4, ground := Go.Ground.guard }], guard := some (4, true) }) (v := undef) rfl (by kernel_rfl) (by kernel_rfl) (by kernel_rfl) (fun _ _ _ h => h) (Or.inr ⟨by rfl, rfl⟩) (by assumption) ?_
        try simp only [Act.put, List.setIfInBounds_toArray, List.set_cons_zero, List.set_cons_succ]
        refine wpAnyH_take (i := 8) (oi := { dst := some 56, op := Go.Op.load 9 (Go.Operand.tmp 55), type := 9, pos := "ref.go:142", after := #[{ on := 7, ground := Go.Ground.data }, { on := 4, ground := Go.Ground.guard }], guard := some (4, true) }) (v := undef) rfl (by kernel_rfl) (by kernel_rfl) (by kernel_rfl) (fun _ _ _ h => h) (Or.inr ⟨by rfl, rfl⟩) (by assumption) ?_
        try simp only [Act.put, List.setIfInBounds_toArray, List.set_cons_zero, List.set_cons_succ]
        refine wpAnyH_take (i := 9) (oi := { dst := some 57, op := Go.Op.move (Go.Operand.tmp 0), type := 22, pos := "ref.go:142", after := #[{ on := 4, ground := Go.Ground.guard }], guard := some (4, true) }) (v := undef) rfl (by kernel_rfl) (by kernel_rfl) (by kernel_rfl) (fun _ _ _ h => h) (Or.inr ⟨by rfl, rfl⟩) (by assumption) ?_
        try simp only [Act.put, List.setIfInBounds_toArray, List.set_cons_zero, List.set_cons_succ]
        refine wpAnyH_take (i := 10) (oi := { dst := some 58, op := Go.Op.move (Go.Operand.tmp 6), type := 3, pos := "ref.go:142", after := #[{ on := 4, ground := Go.Ground.guard }], guard := some (4, true) }) (v := undef) rfl (by kernel_rfl) (by kernel_rfl) (by kernel_rfl) (fun _ _ _ h => h) (Or.inr ⟨by rfl, rfl⟩) (by assumption) ?_
        try simp only [Act.put, List.setIfInBounds_toArray, List.set_cons_zero, List.set_cons_succ]
        refine wpAnyH_take (i := 11) (oi := { dst := some 59, op := Go.Op.indexAddr 22 (Go.Operand.tmp 57) (Go.Operand.tmp 58), type := 0, pos := "ref.go:142", after := #[{ on := 9, ground := Go.Ground.data }, { on := 10, ground := Go.Ground.data }, { on := 4, ground := Go.Ground.guard }], guard := some (4, true) }) (v := undef) rfl (by kernel_rfl) (by kernel_rfl) (by kernel_rfl) (fun _ _ _ h => h) (Or.inr ⟨by rfl, rfl⟩) (by assumption) ?_
        try simp only [Act.put, List.setIfInBounds_toArray, List.set_cons_zero, List.set_cons_succ]
        refine wpAnyH_take (i := 12) (oi := { dst := some 60, op := Go.Op.fieldAddr 27 (Go.Operand.tmp 59) 1, type := 0, pos := "ref.go:142", after := #[{ on := 11, ground := Go.Ground.data }, { on := 4, ground := Go.Ground.guard }], guard := some (4, true) }) (v := undef) rfl (by kernel_rfl) (by kernel_rfl) (by kernel_rfl) (fun _ _ _ h => h) (Or.inr ⟨by rfl, rfl⟩) (by assumption) ?_
        try simp only [Act.put, List.setIfInBounds_toArray, List.set_cons_zero, List.set_cons_succ]
        refine wpAnyH_take (i := 13) (oi := { dst := some 61, op := Go.Op.load 9 (Go.Operand.tmp 60), type := 9, pos := "ref.go:142", after := #[{ on := 12, ground := Go.Ground.data }, { on := 4, ground := Go.Ground.guard }], guard := some (4, true) }) (v := undef) rfl (by kernel_rfl) (by kernel_rfl) (by kernel_rfl) (fun _ _ _ h => h) (Or.inr ⟨by rfl, rfl⟩) (by assumption) ?_
        try simp only [Act.put, List.setIfInBounds_toArray, List.set_cons_zero, List.set_cons_succ]
        refine wpAnyH_take (i := 14) (oi := { dst := some 62, op := Go.Op.binOp Go.BinOp.eql 9 (Go.Operand.tmp 56) (Go.Operand.tmp 61) 9, type := 4, pos := "ref.go:142", after := #[{ on := 8, ground := Go.Ground.data }, { on := 13, ground := Go.Ground.data }, { on := 4, ground := Go.Ground.guard }], guard := some (4, true) }) (v := undef) rfl (by kernel_rfl) (by kernel_rfl) (by kernel_rfl) (fun _ _ _ h => h) (Or.inr ⟨by rfl, rfl⟩) (by assumption) ?_
        try simp only [Act.put, List.setIfInBounds_toArray, List.set_cons_zero, List.set_cons_succ]
        refine wpAnyH_take (i := 15) (oi := { dst := some 63, op := Go.Op.pick (Go.Operand.tmp 52) (Go.Operand.tmp 62) (Go.Operand.const (Go.Value.bool false)), type := 4, pos := "ref.go:142", after := #[{ on := 4, ground := Go.Ground.data }, { on := 14, ground := Go.Ground.data }], guard := none }) (v := ?v76) rfl (by kernel_rfl) (by kernel_rfl) (by kernel_rfl) (fun _ _ _ h => h) (Or.inl ⟨by rfl, ?hy76⟩) (by assumption) ?_
        case hy76 => (intro w hSw; (try dsimp only at hSw); go_simp; try with_reducible rfl)
        try simp only [Act.put, List.setIfInBounds_toArray, List.set_cons_zero, List.set_cons_succ]
        refine wpAnyH_done (by kernel_rfl) ?_ _
        have hAT := (hA.after hdp).after ((Below.refl _ _).drew.drew)
        have hbT := ((hdw.then hdp).drew).drew
        obtain ⟨wT, hwT⟩ : ∃ wT, wT = wr.drew.drew := ⟨_, rfl⟩
        rw [← hwT] at hAT hbT
        simp only [← hwT]
        clear hwT hA
        have hAT2 := hAT.alloc (.cells #[.string ⟨#[]⟩] 9)
        have hown := hAT.own
        have hszb : w.heap.size ≤ (wT.alloc (.cells #[.string ⟨#[]⟩] 9)).heap.size := by have := hbT.size; rw [sz_alloc]; omega
        clear hAT hlo
        go_wp2_with (at_builtin; refine wpList_app_one (T := tStr) rfl _ _ rfl Tryd.underlying39 hi hz0 hz1 hz2 rfl rfl hAT2 rfl (at_new rfl) ⟨rfl, by decide⟩ (by rw [← hn.out]; simp [maxLen]; omega) (by rw [← hn.out]; omega) hszb ?_; intro v7 w7 hA7 hg7 hat7; obtain ⟨A7, n7, c7, rfl, _, _, hn7⟩ := hA7.sl.form'; have hn7i : (n7 : Int) - 1 = (n : Int) := by have h1 := hn7.out; rw [List.length_append, List.length_singleton, ← hn.out] at h1; omega)
        have hn7n : n < n7 := by omega
        obtain ⟨gB, rfl, hgB1, hgB2⟩ := hA7.addr (k := n) hn7n
        have hb7 : Bw w w7 := Acc.bw (bw_al hbT _) hg7 (fun g e => (hown g e).1) (Nat.le_refl _)
        have hgn : out.length = n := hn.out.symm
        have hA7 : Acc tStr 9 w7 w.heap.size (.slice (some ⟨gB, 0, none⟩) n7 c7) (shL out ⟨#[]⟩ n) := by rw [← hgn, shL_top]; exact hA7
        clear hat7 hg7 hAT2 hown hszb hbT
        go_loopw [8] (fun i wq => ∃ q : Nat, p ≤ q ∧ q ≤ n ∧ i = .int .i64 q ∧ w7.grownBy wq (some gB) ∧ Acc tStr 9 wq w.heap.size (.slice (some ⟨gB, 0, none⟩) n7 c7) (shL out ⟨#[]⟩ q)) (fun i _ => (intOf i).toNat)
        case atStart => exact ⟨n, by omega, Nat.le_refl _, rfl, ⟨rfl, rfl, rfl, Nat.le_refl _, fun _ _ _ => rfl⟩, hA7⟩
        case round =>
          obtain ⟨q, hpq, hqn, rfl, hgr, hAk⟩ := hrel
          have fz := hAk.frozen q
          obtain ⟨zq, hzq, _, q0⟩ := hAk.str' (k := q) (by omega)
          have hqn7 : q < n7 := by omega
          by_cases hlt3 : p < q
          · obtain ⟨j, hkj⟩ : ∃ j, q = j + 1 := ⟨q - 1, by omega⟩
            have hkji : (q : Int) - 1 = (j : Int) := by omega
            have hjn : j < n7 := by omega
            obtain ⟨zj, hzj, hzjs, f1⟩ := hAk.str' (k := j) hjn
            have hgj : Hid (out[j]? = some zj) := by
              have h8 := hzj.out
              rw [hkj] at h8
              have h9 := List.getElem?_eq_getElem (l := out) (i := j) (by omega)
              rw [shL_read (by omega) h9] at h8
              injection h8 with h8
              rw [← h8]; exact h9
            have HP := Lib.hid (hAk.put_str (k := q) (y := zj) hzq.out hzjs)
            have hst : Hid ((shL out ⟨#[]⟩ q).set q zj = shL out ⟨#[]⟩ j) := by
              show _ = _
              rw [hkj]; exact shL_step (by omega) hgj.out
            have hpj : p ≤ j := by omega
            have hjn2 : j ≤ n := by omega
            have hjk : j < q := by omega
            clear hkj hAk
            go_wp2_with fail
            have HP := HP.out
            rw [hst.out] at HP
            first | exact ⟨⟨j, hpj, hjn2, by go_num, grown_trans hgr HP.2, HP.1⟩, by simp [intOf]; omega⟩ | (exfalso; omega)
          · have hkp : q = p := by omega
            subst hkp
            have hbq : Bw w wr := bw_grown hb7 hgr hgB1
            have e1 := E1.out _ hbq
            have HP := Lib.hid (hAk.put_str (k := q) (y := y.2) hzq.out (by simpa [maxLen] using hys))
            have hend : Hid ((shL out ⟨#[]⟩ q).set q y.2 = wholeE (tagsOf (l.take (k + 1)) x)) := by
              show _ = _
              rw [hsn.out, HINS.out]
              apply List.ext_getElem?
              intro i
              rw [← shL_end (g := out) (e := y.2) (i := q) (by omega), List.getElem?_set, List.getElem?_set, shL_len (by omega), shL_len (by omega), shL_at (by omega), shL_at (by omega)]
              by_cases hi1 : q = i
              · rw [if_pos hi1, if_pos hi1]
              · rw [if_neg hi1, if_neg hi1]
                by_cases hi2 : i ≤ q
                · rw [if_pos hi2, if_pos hi2, List.getElem?_append_left (by omega), List.getElem?_append_left (by omega)]
                · rw [if_neg hi2, if_neg hi2]
            clear hAk
            go_wp2_with fail
            have HP := HP.out
            rw [hend.out] at HP
            exact ⟨⟨k + 1, hlt, by go_num, bw_grown hbq HP.2 hgB1, HP.1, HNO.out⟩, by simp [intOf]; omega⟩
end Go.Proofs.YtonadloonidmjaaDoor
namespace Go.Proofs.YtonadloonidmjaaDoor
open Go.RowKit
open Pl

set_option maxRecDepth 100000 in
set_option maxHeartbeats 8000000 in
theorem learns_walk {v u : Value} {l : List Kn} {most : Int} {x : List Int} {w : World} (hT : Tb w) (h : Rd tKn w v l) (hx : Rd tInt w u x) :
    Calls Tryd.prog 5 #[v, .int .i64 most, u] w fun e w' => e = .returned (.bool true) ∧ Bw w w' := by
  obtain ⟨A, N, c, rfl, _, _, hN⟩ := h.form'
  obtain ⟨A', n', c', rfl, _, _, hn'⟩ := hx.form'
  cases hL : largeB l
  case true =>
    go_enter Tryd.func5, Tryd.ntmps5
    go_wp2_with (first | (go_at_call 8; (with_reducible refine (val_of (congrArg Value.bool hL) (large_any h)).mono ?_); rintro e w1 ⟨rfl, n, rfl⟩) | (go_at_call 9; (with_reducible refine (awake_any (hT.after (Dr.n w n).bw)).mono ?_); rintro e w2 ⟨rfl, hb2⟩))
    go_ret
    exact ⟨rfl, (Dr.n w n).bw.then hb2⟩
  have h60 := large_len hL
  by_cases hx2 : 250 < n'
  · have z1 : (250 : Int) < (n' : Int) := by omega
    go_enter Tryd.func5, Tryd.ntmps5
    go_wp2_with (first | (go_at_call 8; (with_reducible refine (val_of (congrArg Value.bool hL) (large_any h)).mono ?_); rintro e w1 ⟨rfl, n, rfl⟩) | (go_at_call 9; (with_reducible refine (awake_any (hT.after (Dr.n w n).bw)).mono ?_); rintro e w2 ⟨rfl, hb2⟩))
    go_ret
    exact ⟨rfl, (Dr.n w n).bw.then hb2⟩
  have z1 : ¬ (250 : Int) < (n' : Int) := by omega
  have hL1 := Lib.hid (fun (W : World) (kk : Bw w W) => learn_any (most := most) (hT.after kk) (h.after kk))
  have hL2 := Lib.hid (fun (W : World) (kk : Bw w W) => rlearn_any (most := most) (h.after kk))
  have HA := Lib.hid (fun (W : World) (kk : Bw w W) => awake_any (hT.after kk))
  have HW1 := Lib.hid (fun (W : World) (kk : Bw w W) => whole_any (hT.after kk) (h.after kk) (hx.after kk) (by omega))
  have HW2 := Lib.hid (fun (W : World) (kk : Bw w W) => rwhole_any (h.after kk) (hx.after kk) (by omega))
  have HL := Lib.hid (val_of (congrArg Value.bool hL) (large_any h))
  unfold LearnR at hL1 hL2
  generalize learnP l most = p at *
  generalize wholeP l x = ws at *
  obtain ⟨G, E⟩ := p
  have hE : (E == E) = true := beq_self_eq_true E
  have hsame : same G G = true := by unfold same; exact decide_eq_true rfl
  have hsame2 : same ws ws = true := by unfold same; exact decide_eq_true rfl
  clear h hx hT hL
  go_enter Tryd.func5, Tryd.ntmps5
  go_wp2_with (first | (go_at_call 8; (with_reducible refine HL.out.mono ?_); rintro e w1 ⟨rfl, n, rfl⟩))
  have k0 := (Dr.n w n).bw
  with_reducible refine (hL1.out _ k0).mono ?_
  rintro e w2 ⟨v2, rfl, q2, hv2⟩
  have k2 := k0.then q2
  have Hv2 := Lib.hid hv2
  clear hL1 hv2 HL
  go_wp2_with fail
  with_reducible refine (hL2.out _ k2).mono ?_
  rintro e w3 ⟨v3, rfl, q3, hv3⟩
  have k3 := k2.then q3
  have HS := Lib.hid (val_of (congrArg Value.bool hsame) (sameE_any (bw_hi Hv2.out q3) hv3.rd))
  clear hL2 hv3 Hv2 hsame
  go_wp2_with (first | (go_at_call 11; (with_reducible refine HS.out.mono ?_); rintro e w4 ⟨rfl, q4⟩; have k4 := k3.then q4.bw) | (go_at_call 15; (with_reducible refine (HW1.out _ k4).mono ?_); rintro e w5 ⟨v5, rfl, q5, hv5⟩; have k5 := k4.then q5; have Hv5 := Lib.hid hv5; clear hv5) | (go_at_call 18; (with_reducible refine (HW2.out _ k5).mono ?_); rintro e w6 ⟨v6, rfl, q6, hv6⟩; have k6 := k5.then q6; have Hv6 := Lib.hid hv6; clear hv6) | (go_at_call 17; (with_reducible refine (val_of (congrArg Value.bool hsame2) (sameList_any (bw_hi Hv5.out q6) Hv6.out.rd)).mono ?_); rintro e w7 ⟨rfl, q7⟩; have k7 := k6.then q7.bw) | (go_at_call 9; (with_reducible refine (HA.out _ k7).mono ?_); rintro e w8 ⟨rfl, q8⟩))
  go_ret
  exact ⟨rfl, k7.then q8⟩
end Go.Proofs.YtonadloonidmjaaDoor

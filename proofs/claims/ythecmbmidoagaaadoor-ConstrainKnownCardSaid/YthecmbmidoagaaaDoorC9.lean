/- Lists of cohorts of the call's own, changed in place; lists of steps. Conditions: what the slices read as. -/
import Derived.Test.YthecmbmidoagaaaDoorC8e
namespace Go.Proofs.YthecmbmidoagaaaDoor
open Go.RowKit Go.Maps
open Pl

theorem infoC : (Tryd.prog.info? 37).map (fun i => (i.zero, i.size, i.bytes)) = some (some (.agg #[.string ⟨#[]⟩, .slice none 0 0]), 2, 40) := by kernel_rfl
theorem infoP : (Tryd.prog.info? 52).map (fun i => (i.zero, i.size, i.bytes)) = some (some (.agg #[.int .i64 0, .int .i64 0, .int .i64 0]), 3, 24) := by kernel_rfl

theorem flat_set2 (a b : Value) : ∀ (css : List (List Value)) (j : Nat), (∀ cs ∈ css, cs.length = 2) → j < css.length → (css.flatten.set (j * 2) a).set (j * 2 + 1) b = (css.set j [a, b]).flatten
  | [], j, _, hj => absurd hj (by simp)
  | c :: r, 0, h, _ => by
    have hc := h c (by simp)
    match c, hc with
    | [x, y], _ => rfl
  | c :: r, j + 1, h, hj => by
    have hc := h c (by simp)
    have ih := flat_set2 a b r j (fun cs hcs => h cs (by simp [hcs])) (by simpa using hj)
    match c, hc with
    | [x, y], _ =>
      rw [List.flatten_cons, List.set_cons_succ, List.flatten_cons, ← ih]
      rw [show (j + 1) * 2 = j * 2 + 1 + 1 by omega]
      rfl

/-- Element j of a list of cohorts of the call's own is replaced, in place. -/
theorem acc_setC {w : World} {e : TypeId} {base g n cap j : Nat} {xs : List Coh} {fm : ByteArray} {u : Value} {rs : List Rdg} {P : Nat → Prop} (h : Acc (tLo tCoh P) e w base (.slice (some ⟨g, 0, none⟩) n cap) xs) (hj : j < xs.length) (hf : fm.size ≤ maxLen) (hu : Sl tRdg w (fun b => (base ≤ b ∧ b ≠ g) ∧ P b) u rs) :
    Acc (tLo tCoh P) e ((w.setCell ⟨g, j * 2, none⟩ (.string fm)).setCell ⟨g, j * 2 + 1, none⟩ u) base (.slice (some ⟨g, 0, none⟩) n cap) (xs.set j (fm, rs)) ∧
      w.grownBy ((w.setCell ⟨g, j * 2, none⟩ (.string fm)).setCell ⟨g, j * 2 + 1, none⟩ u) (some g) := by
  have hn : n = xs.length := by
    obtain ⟨A, c, e1, _, _⟩ := h.form
    injection e1
  subst hn
  obtain ⟨css, h1, h2, h3⟩ := h
  have hlen : ∀ cs ∈ css, cs.length = 2 := by
    intro cs hcs
    obtain ⟨i, hi⟩ := List.mem_iff_getElem?.1 hcs
    have hil : i < xs.length := by have := (List.getElem?_eq_some_iff.1 hi).1; omega
    exact (tLo tCoh P).len (h3 i _ cs (List.getElem?_eq_getElem hil) hi)
  have h1' : w.ownsRow base e 2 (.slice (some ⟨g, 0, none⟩) xs.length cap) xs.length css.flatten := h1
  have s1 := h1'.stored (j * 2) (.string fm)
  have s2 := s1.1.stored (j * 2 + 1) u
  have hg := s1.2.trans s2.2
  refine ⟨⟨css.set j [.string fm, u], ?_, by simp [h2], fun i x cs hi hc => ?_⟩, hg⟩
  · have e := s2.1
    rw [flat_set2 (.string fm) u css j hlen (by omega)] at e
    rw [List.length_set]
    exact e
  · by_cases hij : j = i
    · subst hij
      rw [List.getElem?_set_self (by omega)] at hc hi
      injection hi with hi; injection hc with hc
      subst hi; subst hc
      exact coh_rep (c := (fm, rs)) hf (hu.lt.keep fun b hb => ⟨⟨⟨hb.1.1.1, fun e => hb.1.1.2 (by injection e)⟩, hb.1.2⟩, hg.block b hb.2 (fun e => hb.1.1.2 (by injection e))⟩)
    · rw [List.getElem?_set_ne hij] at hc hi
      exact tCoh.keep (tCoh.lt (show tCoh.rep w _ cs x from h3 i x cs hi hc)) fun b hb => ⟨hb.1, hg.block b hb.2 hb.1.1.2⟩
theorem acc_p {α : Type} {T : Ty α} {e : TypeId} {w : World} {base : Nat} {v : Value} {xs : List α} {P P' : Nat → Prop} (h : Acc (tLo T P) e w base v xs) (hp : ∀ b, b < w.heap.size → P b → P' b) : Acc (tLo T P') e w base v xs := by
  obtain ⟨css, h1, h2, h3⟩ := h
  exact ⟨css, h1, h2, fun j x cs hj hc => T.keep (T.lt (show T.rep w _ cs x from h3 j x cs hj hc)) fun b hb => ⟨⟨hb.1.1, hp b hb.2 hb.1.2⟩, rfl⟩⟩
theorem acc_first {α : Type} {T : Ty α} {e : TypeId} {w : World} {base : Nat} {v : Value} {xs : List α} (h : Acc T e w base v xs) (hx : 0 < xs.length) : ∃ g cap, v = .slice (some ⟨g, 0, none⟩) xs.length cap ∧ base ≤ g ∧ ∀ j, w.frozen? ⟨g, j, none⟩ = false := by
  obtain ⟨css, h1, h2, h3⟩ := h
  rcases h1.2 with ⟨_, h0⟩ | ⟨g, cap, cur, e1, hb, hg, _⟩
  · omega
  · exact ⟨g, cap, e1, hb, fun j => frozen_of_cells hg⟩

theorem flat_stp : Flat tStp := fun _ _ _ _ _ _ h => by
  obtain ⟨rfl, h1, h2, h3⟩ := rep_stp h
  exact stp_rep h1 h2 h3
/-- The length of a slice value. -/
def lenV : Value → Nat
  | .slice _ n _ => n
  | _ => 0
theorem one_at {r : Rul} {k i : Nat} {s : St} {c : Coh} (h : s.1[i]? = some c) : oneA r k i s = if (chg r s.1 i).2.length < c.2.length then (s.1.set i (chg r s.1 i), s.2 ++ [((k : Int), (i : Int), ((chg r s.1 i).2.length : Int))]) else s := by
  unfold oneA
  rw [h]
end Go.Proofs.YthecmbmidoagaaaDoor

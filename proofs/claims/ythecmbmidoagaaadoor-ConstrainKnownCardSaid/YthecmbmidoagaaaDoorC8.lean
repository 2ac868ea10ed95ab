/- The contracts of slices.Clone at strings and of 'clone' (the program's). Conditions: what the arguments read as; bounds on their lengths. -/
import Derived.Test.YthecmbmidoagaaaDoorC7d
import Derived.Deep.RegionLaw
namespace Go.Proofs.YthecmbmidoagaaaDoor
open Go.RowKit Go.Maps
open Pl

theorem acc_strs {w : World} {base : Nat} {v : Value} {t : List ByteArray} (h : w.ownsRow base 9 1 v t.length (t.map Value.string)) (ht : ∀ y ∈ t, y.size ≤ maxLen) : Acc tStr 9 w base v t := by
  refine ⟨t.map fun s => [.string s], ?_, by simp, fun j x cs hj hc => ?_⟩
  · have : ∀ l : List ByteArray, (l.map fun s => [Value.string s]).flatten = l.map Value.string := by
      intro l
      induction l with
      | nil => rfl
      | cons x r ih => simp only [List.map_cons, List.flatten_cons, ih]; rfl
    rw [this]; exact h
  · rw [List.getElem?_map, hj] at hc
    injection hc with hc
    subst hc
    exact ⟨rfl, ht x (List.mem_of_getElem? hj)⟩
theorem rd_sizes {w : World} {D : Nat → Prop} {v : Value} {t : List ByteArray} (h : Sl tStr w D v t) : ∀ y ∈ t, y.size ≤ maxLen := by
  intro y hy
  obtain ⟨j, hj⟩ := List.mem_iff_getElem?.1 hy
  obtain ⟨b, off, c, cs, _, _, ⟨_, h4⟩, _⟩ := h.cells hj
  exact h4

theorem sclone_any {v : Value} {t : List ByteArray} {w : World} (h : Rd tStr w v t) (hl : t.length ≤ 500) :
    Calls Tryd.prog 66 #[v] w fun e w' => ∃ u, e = .returned u ∧ Bw w w' ∧ Acc tStr 9 w' w.heap.size u t := by
  have ht := rd_sizes h
  obtain ⟨A, c, rfl, h2, h3, hrow⟩ := h
  by_cases h0 : t = []
  · subst h0
    cases A with
    | none =>
      refine (Tryd.slices_Clone_string_nil 0 c w).mono ?_
      rintro e w' ⟨rfl, rfl⟩
      exact ⟨_, rfl, Below.refl _ _, Acc.nil _ _⟩
    | some a =>
      refine (Tryd.slices_Clone_string_zero a c w).mono ?_
      rintro e w' ⟨u, rfl, h1, _, hb⟩
      exact ⟨_, rfl, hb, acc_strs (t := []) h1 ht⟩
  · rcases hrow with hrow | ⟨b, off, rfl, hD, hx⟩
    · exact absurd hrow h0
    · refine (Tryd.slices_Clone_string b off t.length c t w (Nat.le_refl _) (by omega) (fun j hj => ?_)).mono ?_
      · obtain ⟨cs, ⟨rfl, _⟩, hc⟩ := hx j _ (List.getElem?_eq_getElem hj)
        have := hc 0 _ rfl
        simp only [tStr, Nat.mul_one, Nat.add_zero] at this
        rw [this, List.getD_eq_getElem?_getD, List.getElem?_eq_getElem hj]
        rfl
      · rintro e w' ⟨u, rfl, h1, _, hb⟩
        rw [List.take_length] at h1
        exact ⟨_, rfl, hb, acc_strs h1 ht⟩

theorem infoR : (Tryd.prog.info? 24).map (fun i => (i.zero, i.size, i.bytes)) = some (some (.agg #[.slice none 0 0]), 1, 24) := by kernel_rfl
/-- Lengths within bounds. -/
def SmallR (rs : List Rdg) : Prop := rs.length ≤ 500 ∧ ∀ r ∈ rs, r.length ≤ 500

theorem set_row {w : World} {g : Nat} {a b v : Value} {e : TypeId} (h : w.heap[g]? = some (.cells #[a, b] e (0, 0))) : (w.setCell ⟨g, 1, none⟩ v).heap[g]? = some (.cells #[a, v] e (0, 0)) := by
  rw [heap_setCell_same w g 1 _ e v h]; rfl
theorem set_row0 {w : World} {g : Nat} {a b v : Value} {e : TypeId} (h : w.heap[g]? = some (.cells #[a, b] e (0, 0))) : (w.setCell ⟨g, 0, none⟩ v).heap[g]? = some (.cells #[v, b] e (0, 0)) := by
  rw [heap_setCell_same w g 0 _ e v h]; rfl
theorem set_old {w : World} {g k i : Nat} {v : Value} (h : k ≠ g) : (w.setCell ⟨g, i, none⟩ v).heap[k]? = w.heap[k]? := heap_setCell_other w ⟨g, i, none⟩ k v h
theorem set_grown (w : World) (g i : Nat) (v : Value) : w.grownBy (w.setCell ⟨g, i, none⟩ v) (some g) :=
  ⟨rfl, rfl, rfl, by simp [World.setCell], fun k _ hk => set_old (fun e => hk (by rw [e]))⟩

theorem row2_0 {w : World} {g : Nat} {a b : Value} {e : TypeId} {fz : Nat × Nat} (h : w.heap[g]? = some (.cells #[a, b] e fz)) : w.cell? ⟨g, 0, none⟩ = some a := by rw [cell_of_row w g 0 _ _ _ h]; rfl
theorem row2_1 {w : World} {g : Nat} {a b : Value} {e : TypeId} {fz : Nat × Nat} (h : w.heap[g]? = some (.cells #[a, b] e fz)) : w.cell? ⟨g, 1, none⟩ = some b := by rw [cell_of_row w g 1 _ _ _ h]; rfl

set_option maxRecDepth 100000 in
set_option maxHeartbeats 4000000 in
theorem clone_any {fm : ByteArray} {u : Value} {rs : List Rdg} {w : World} (h : Rd tRdg w u rs) (hs : SmallR rs) :
    Calls Tryd.prog 46 #[.agg #[.string fm, u]] w fun e w' => ∃ u', e = .returned (.agg #[.string fm, u']) ∧ Bw w w' ∧ Acc tRdg 24 w' w.heap.size u' rs := by
  have hm := h.len_le
  obtain ⟨A, c, rfl, _, _⟩ := h.form
  obtain ⟨i0, hi, hz0, hz1, hz2⟩ := info_parts infoR
  go_enter Tryd.func46, Tryd.ntmps46
  go_wp2_with fail
  have q1 : (((w.alloc (.cells #[.string fm, .slice A rs.length c] 37)).alloc (.cells #[.string ⟨#[]⟩, .slice none 0 0] 37)).alloc (.cells #[.string fm, .slice none 0 0] 37)).heap[w.heap.size + 1]? = some (.cells #[.string ⟨#[]⟩, .slice none 0 0] 37) := at_old (at_new (by simp))
  have q2 : (((w.alloc (.cells #[.string fm, .slice A rs.length c] 37)).alloc (.cells #[.string ⟨#[]⟩, .slice none 0 0] 37)).alloc (.cells #[.string fm, .slice none 0 0] 37)).heap[w.heap.size + 1 + 1]? = some (.cells #[.string fm, .slice none 0 0] 37) := at_new (by simp)
  go_loopw [12] (fun i wr => ∃ (k : Nat) (A' : Option Addr) (n c' : Nat), k ≤ rs.length ∧ i = .int .i64 k ∧ Bw w wr ∧ wr.heap[w.heap.size + 1]? = some (.cells #[.string ⟨#[]⟩, .slice none 0 0] 37) ∧
    wr.heap[w.heap.size + 1 + 1]? = some (.cells #[.string fm, .slice A' n c'] 37) ∧ Acc tRdg 24 wr (w.heap.size + 3) (.slice A' n c') (rs.take k)) (fun i _ => rs.length - (intOf i).toNat)
  case atStart => exact ⟨0, none, 0, 0, Nat.zero_le _, rfl, bw_al (bw_al (bw_refl_al w _) _) _, q1, q2, Acc.nil _ _⟩
  case round =>
    clear q1 q2
    obtain ⟨k, A', n, c', hk, rfl, hbw, hr1, hr2, hacc⟩ := hrel
    have Hr1 := Lib.hid hr1
    have Hr2 := Lib.hid hr2
    have c20 := row2_0 hr2
    have c21 := row2_1 hr2
    clear hr1 hr2
    have hown := hacc.own
    have hsz : w.heap.size + 1 + 1 < wr.heap.size := (Array.getElem?_eq_some_iff.1 Hr2.out).1
    by_cases hlt : k < rs.length
    · obtain ⟨b, off, y, uy, rfl, hy, hyr, hc⟩ := lookR (h.after hbw) hlt
      obtain ⟨u', e, hyu⟩ := rep_rdg hyr
      injection e with e; subst e
      obtain ⟨A3, c3, rfl, _, _⟩ := hyu.form
      have hyl : y.length ≤ 500 := hs.2 y (List.mem_of_getElem? hy.out)
      have hl500 := hs.1
      have hbx := bw_refl_al wr (.cells #[.slice A3 y.length c3] 24)
      have HC := Lib.hid (fun (W : World) (kk : Bw wr W) => sclone_any (hyu.rd.after kk) hyl)
      have hne : w.heap.size + 1 + 1 ≠ wr.heap.size := by omega
      have KB : ∀ w', Bw (wr.alloc (.cells #[.slice A3 y.length c3] 24)) w' → w'.cell? ⟨wr.heap.size, 0, none⟩ = some (.slice A3 y.length c3) := fun w' kk => bw_cell kk (row_c0 (at_new rfl))
      have hsnoc : Hid (rs.take (k + 1) = rs.take k ++ [y]) := by show _ = _; rw [List.take_add_one, hy.out]; rfl
      have hkl : (rs.take k).length = k := by rw [List.length_take]; omega
      clear hyr hyu h
      go_wp2_with fail
      go_region_law
        (first
          | (refine step_app_one rfl _ _ rfl Tryd.underlying35 hi hz0 hz1 hz2 (by rfl) (by rfl) ((hacc.after (hbx.then (by (repeat' first | with_reducible exact Below.refl _ _ | with_reducible refine Bw.then ?_ hbA | with_reducible refine Bw.drew ?_ | with_reducible refine Bw.drewN ?_ _)))).alloc _) (by rfl) (at_new rfl) ⟨_, rfl, (hAA.sl.lt.keep fun b hb => ⟨⟨by have := hb.1.1; simp at this; omega, fun e => by have := (hown b e.symm).2; have := hb.1.1; simp at this; omega⟩, Below.heap_alloc _ _ b hb.2⟩)⟩ (by simp [maxLen]; omega) (by simp; omega) (by have := hbA.size; simp at this ⊢; omega) ?_
             intro v2 w2 hA2 hg2 hat2
             rw [← hsnoc.out] at hA2
             obtain ⟨P2, n2, c2, rfl, _, _, Hn2⟩ := hA2.sl.form'
             have e21 : w2.heap[w.heap.size + 1 + 1]? = some (.cells #[.string fm, .slice A' n c'] 37) := (hg2.block _ (by have := hbA.size; simp at this ⊢; omega) (fun e => by have := (hown _ e.symm).1; omega)).trans (at_old (row_bw (hbx.then (by (repeat' first | with_reducible exact Below.refl _ _ | with_reducible refine Bw.then ?_ hbA | with_reducible refine Bw.drew ?_ | with_reducible refine Bw.drewN ?_ _))) Hr2.out))
             have e11 : w2.heap[w.heap.size + 1]? = some (.cells #[.string ⟨#[]⟩, .slice none 0 0] 37) := (hg2.block _ (by have := hbA.size; simp at this ⊢; omega) (fun e => by have := (hown _ e.symm).1; omega)).trans (at_old (row_bw (hbx.then (by (repeat' first | with_reducible exact Below.refl _ _ | with_reducible refine Bw.then ?_ hbA | with_reducible refine Bw.drew ?_ | with_reducible refine Bw.drewN ?_ _))) Hr1.out))
             have hbF : Bw w w2 := Acc.bw (bw_al (hbw.then (hbx.then (by (repeat' first | with_reducible exact Below.refl _ _ | with_reducible refine Bw.then ?_ hbA | with_reducible refine Bw.drew ?_ | with_reducible refine Bw.drewN ?_ _)))) _) hg2 (fun g e => (hown g e).1) (by omega)
             have e21 := Lib.hid e21
             have e11 := Lib.hid e11
             have d21 := row2_1 e21.out
             have d2f := frozen_of_cells (i := 1) e21.out)
          | (go_simp; go_at_call 66; (with_reducible refine (HC.out _ (by (repeat' first | with_reducible exact hbx | with_reducible refine Bw.drew ?_ | with_reducible refine Bw.drewN ?_ _))).mono ?_); rintro e wA ⟨uA, rfl, hbA, hAA⟩; obtain ⟨PA, nA, cA, rfl, _, _, HnA⟩ := hAA.sl.form'; have eA : wA.cell? ⟨w.heap.size + 1 + 1, 1, none⟩ = some (.slice A' n c') := bw_cell (hbx.then (by (repeat' first | with_reducible exact Below.refl _ _ | with_reducible refine Bw.then ?_ hbA | with_reducible refine Bw.drew ?_ | with_reducible refine Bw.drewN ?_ _))) c21; have eA2 := bw_cell (bw_refl_al wA (.cells #[.slice PA nA cA] 24)) eA))
      all_goals
        go_wp2_with fail
        exact ⟨⟨k + 1, P2, n2, c2, hlt, by go_num, bw_grown hbF (set_grown _ _ _ _) (by omega), (set_old (by omega)).trans e11.out, set_row e21.out, hA2.grown (set_grown _ _ _ _) (by cases ho : (Value.slice P2 n2 c2).ownBlock with | none => exact .inl rfl | some g => exact .inr (fun e => by injection e with e; have := (hA2.own g ho).1; omega)) (fun g e => by injection e with e; omega)⟩, by simp [intOf]; omega⟩
    · have hk2 : k = rs.length := by omega
      subst hk2
      rw [List.take_length] at hacc
      have f10 := row2_0 Hr1.out
      have f11 := row2_1 Hr1.out
      have f1f := frozen_of_cells (i := 0) Hr1.out
      have f1g := frozen_of_cells (i := 1) Hr1.out
      clear h
      go_wp2_with fail
      have e2 := set_row (v := .slice A' n c') (set_row0 (v := .string fm) Hr1.out)
      have hc0 := row2_0 e2
      have hc1 := row2_1 e2
      refine bodyPost_ret (v := .agg #[.string fm, .slice A' n c']) (by simp [results, Tryd.f46, go_sem, hc0, hc1]) rfl ?_
      refine ⟨_, rfl, bw_grown (bw_grown hbw (set_grown _ _ _ _) (by omega)) (set_grown _ _ _ _) (by omega), Acc.weak (base := w.heap.size + 3) ?_ (by omega)⟩
      have hne : ∀ row, row = some (w.heap.size + 1) → ((Value.slice A' n c').ownBlock = none ∨ (Value.slice A' n c').ownBlock ≠ row) := fun row e => by
        cases ho : (Value.slice A' n c').ownBlock with
        | none => exact .inl rfl
        | some g => exact .inr (fun e' => by rw [e] at e'; injection e' with e'; have := (hown g ho).1; omega)
      exact (hacc.grown (set_grown _ _ _ _) (hne _ rfl) (fun g e => by injection e with e; omega)).grown (set_grown _ _ _ _) (hne _ rfl) (fun g e => by injection e with e; omega)
end Go.Proofs.YthecmbmidoagaaaDoor

/- The contract of the reference's 'Clone'. Conditions: what the arguments read as. -/
import Derived.Test.YthecmbmidoagaaaDoorCC
namespace Go.Proofs.YthecmbmidoagaaaDoor
open Go.RowKit Go.Maps
open Pl

theorem infoS : (Tryd.prog.info? 9).map (fun i => (i.zero, i.size, i.bytes)) = some (some (.string ⟨#[]⟩), 1, 16) := by kernel_rfl
set_option maxRecDepth 100000 in
set_option maxHeartbeats 4000000 in
theorem rclone_any {fm : ByteArray} {u : Value} {rs : List Rdg} {w : World} (h : Rd tRdg w u rs) (hs : SmallR rs) :
    Calls Tryd.prog 48 #[.agg #[.string fm, u]] w fun e w' => ∃ u', e = .returned (.agg #[.string fm, u']) ∧ Bw w w' ∧ Acc tRdg 24 w' w.heap.size u' rs := by
  have hm := h.len_le
  obtain ⟨A, c, rfl, _, _⟩ := h.form
  obtain ⟨i0, hi, hz0, hz1, hz2⟩ := info_parts infoR
  obtain ⟨j0, hj, hy0, hy1, hy2⟩ := info_parts infoS
  go_enter Tryd.func48, Tryd.ntmps48
  go_wp2_with fail
  have q0 : (((w.alloc (.cells #[.string fm, .slice A rs.length c] 37)).alloc (.cells #[.string ⟨#[]⟩, .slice none 0 0] 37)).alloc (.cells #[.string fm, .slice none 0 0] 37)).heap[w.heap.size]? = some (.cells #[.string fm, .slice A rs.length c] 37) := at_old (at_old (at_new rfl))
  have q1 : (((w.alloc (.cells #[.string fm, .slice A rs.length c] 37)).alloc (.cells #[.string ⟨#[]⟩, .slice none 0 0] 37)).alloc (.cells #[.string fm, .slice none 0 0] 37)).heap[w.heap.size + 1]? = some (.cells #[.string ⟨#[]⟩, .slice none 0 0] 37) := at_old (at_new (by simp))
  have q2 : (((w.alloc (.cells #[.string fm, .slice A rs.length c] 37)).alloc (.cells #[.string ⟨#[]⟩, .slice none 0 0] 37)).alloc (.cells #[.string fm, .slice none 0 0] 37)).heap[w.heap.size + 1 + 1]? = some (.cells #[.string fm, .slice none 0 0] 37) := at_new (by simp)
  go_loopw [4] (fun i wr => ∃ (k : Nat) (A' : Option Addr) (n c' : Nat), k ≤ rs.length ∧ i = .int .i64 k ∧ Bw w wr ∧ wr.heap[w.heap.size]? = some (.cells #[.string fm, .slice A rs.length c] 37) ∧ wr.heap[w.heap.size + 1]? = some (.cells #[.string ⟨#[]⟩, .slice none 0 0] 37) ∧
    wr.heap[w.heap.size + 1 + 1]? = some (.cells #[.string fm, .slice A' n c'] 37) ∧ Acc tRdg 24 wr (w.heap.size + 3) (.slice A' n c') (rs.take k)) (fun i _ => rs.length - (intOf i).toNat)
  case atStart => exact ⟨0, none, 0, 0, Nat.zero_le _, rfl, bw_al (bw_al (bw_refl_al w _) _) _, q0, q1, q2, Acc.nil _ _⟩
  case round =>
    clear q0 q1 q2
    obtain ⟨k, A', n, c', hk, rfl, hbw, hr0, hr1, hr2, hacc⟩ := hrel
    have Hr0 := Lib.hid hr0
    have Hr1 := Lib.hid hr1
    have Hr2 := Lib.hid hr2
    have c01 := row2_1 hr0
    have c20 := row2_0 hr2
    have c21 := row2_1 hr2
    clear hr0 hr1 hr2
    have hown := hacc.own
    have hsz : w.heap.size + 1 + 1 < wr.heap.size := (Array.getElem?_eq_some_iff.1 Hr2.out).1
    by_cases hlt : k < rs.length
    · obtain ⟨b, off, y, uy, rfl, hy, hyr, hc⟩ := lookR (h.after hbw) hlt
      obtain ⟨u', e, hyu⟩ := rep_rdg hyr
      injection e with e; subst e
      obtain ⟨A3, c3, rfl, _, _⟩ := hyu.form
      have hyl : y.length ≤ 500 := hs.2 y (List.mem_of_getElem? hy.out)
      have hl500 := hs.1
      have HY := fun (W : World) (kk : Bw wr W) => hyu.rd.after kk
      have hsnoc : Hid (rs.take (k + 1) = rs.take k ++ [y]) := by show _ = _; rw [List.take_add_one, hy.out]; rfl
      have hkl : (rs.take k).length = k := by rw [List.length_take]; omega
      clear hyr hyu h
      go_wp2_with fail
      go_region_law
        (first
          | (refine step_app_sl (T := tStr) (base := wr.heap.size) rfl _ _ rfl Tryd.underlying22 hj hy0 hy1 hy2 (by rfl) (by rfl) (Acc.nil _ _) (by rfl) (HY _ (by (repeat' first | with_reducible exact Below.refl _ _ | with_reducible refine Bw.drew ?_ | with_reducible refine Bw.drewN ?_ _))) str_free (by simp [maxLen]; omega) (by simp; omega) (Nat.le_refl _) ?_
             intro v8 w8 hA8 hg8 hat8
             rw [List.nil_append] at hA8
             have hb8 : Bw wr w8 := Acc.bw (base := wr.heap.size) (by (repeat' first | with_reducible exact Below.refl _ _ | with_reducible refine Bw.drew ?_ | with_reducible refine Bw.drewN ?_ _)) hg8 (fun g e => by cases e) (Nat.le_refl _)
             obtain ⟨PV, nV, cV, rfl, _, _, HnV⟩ := hA8.sl.form'
             have eA : w8.cell? ⟨w.heap.size + 1 + 1, 1, none⟩ = some (.slice A' n c') := bw_cell hb8 c21
             have eA2 := bw_cell (bw_refl_al w8 (.cells #[.slice PV nV cV] 24)) eA)
          | (refine step_app_one (T := tRdg) rfl _ _ rfl Tryd.underlying35 hi hz0 hz1 hz2 (by rfl) (by rfl) ((hacc.after (by (repeat' first | with_reducible exact Below.refl _ _ | with_reducible refine Bw.then ?_ hb8 | with_reducible refine Bw.drew ?_ | with_reducible refine Bw.drewN ?_ _))).alloc _) (by rfl) (at_new rfl) ⟨_, rfl, (hA8.sl.lt.keep fun b hb => ⟨⟨by have h1 : wr.heap.size ≤ b := hb.1.1; omega, fun e => by have := (hown b e.symm).2; have h1 : wr.heap.size ≤ b := hb.1.1; omega⟩, Below.heap_alloc _ _ b hb.2⟩)⟩ (by simp [maxLen]; omega) (by simp; omega) (by have := hb8.size; simp at this ⊢; omega) ?_
             intro v2 w2 hA2 hg2 hat2
             rw [← hsnoc.out] at hA2
             obtain ⟨P2, n2, c2, rfl, _, _, Hn2⟩ := hA2.sl.form'
             have e21 : w2.heap[w.heap.size + 1 + 1]? = some (.cells #[.string fm, .slice A' n c'] 37) := (hg2.block _ (by have := hb8.size; simp at this ⊢; omega) (fun e => by have := (hown _ e.symm).1; omega)).trans (at_old (row_bw (by (repeat' first | with_reducible exact Below.refl _ _ | with_reducible refine Bw.then ?_ hb8 | with_reducible refine Bw.drew ?_ | with_reducible refine Bw.drewN ?_ _)) Hr2.out))
             have e11 : w2.heap[w.heap.size + 1]? = some (.cells #[.string ⟨#[]⟩, .slice none 0 0] 37) := (hg2.block _ (by have := hb8.size; simp at this ⊢; omega) (fun e => by have := (hown _ e.symm).1; omega)).trans (at_old (row_bw (by (repeat' first | with_reducible exact Below.refl _ _ | with_reducible refine Bw.then ?_ hb8 | with_reducible refine Bw.drew ?_ | with_reducible refine Bw.drewN ?_ _)) Hr1.out))
             have e01 : w2.heap[w.heap.size]? = some (.cells #[.string fm, .slice (some ⟨b, off, none⟩) rs.length c] 37) := (hg2.block _ (by have := hb8.size; simp at this ⊢; omega) (fun e => by have := (hown _ e.symm).1; omega)).trans (at_old (row_bw (by (repeat' first | with_reducible exact Below.refl _ _ | with_reducible refine Bw.then ?_ hb8 | with_reducible refine Bw.drew ?_ | with_reducible refine Bw.drewN ?_ _)) Hr0.out))
             have hbF : Bw w w2 := Acc.bw (bw_al (hbw.then (by (repeat' first | with_reducible exact Below.refl _ _ | with_reducible refine Bw.then ?_ hb8 | with_reducible refine Bw.drew ?_ | with_reducible refine Bw.drewN ?_ _))) _) hg2 (fun g e => (hown g e).1) (by omega)
             have e21 := Lib.hid e21
             have e11 := Lib.hid e11
             have e01 := Lib.hid e01
             have d21 := row2_1 e21.out
             have d2f := frozen_of_cells (i := 1) e21.out))
      all_goals
        go_wp2_with fail
        exact ⟨⟨k + 1, P2, n2, c2, hlt, by go_num, bw_grown hbF (set_grown _ _ _ _) (by omega), (set_old (by omega)).trans e01.out, (set_old (by omega)).trans e11.out, set_row e21.out, hA2.grown (set_grown _ _ _ _) (by cases ho : (Value.slice P2 n2 c2).ownBlock with | none => exact .inl rfl | some g => exact .inr (fun e => by injection e with e; have := (hA2.own g ho).1; omega)) (fun g e => by injection e with e; omega)⟩, by simp [intOf]; omega⟩
    · have hk2 : k = rs.length := by omega
      subst hk2
      rw [List.take_length] at hacc
      have f10 := row2_0 Hr1.out
      have f11 := row2_1 Hr1.out
      have f1f := frozen_of_cells (i := 0) Hr1.out
      have f1g := frozen_of_cells (i := 1) Hr1.out
      clear h
      go_wp2_with fail
      have e2 := set_row (v := .slice A' n c') (set_row0 (v := .string fm) Hr1.out)
      have hc0 := row2_0 e2
      have hc1 := row2_1 e2
      refine bodyPost_ret (v := .agg #[.string fm, .slice A' n c']) (by simp [results, Tryd.f48, go_sem, hc0, hc1]) rfl ?_
      refine ⟨_, rfl, bw_grown (bw_grown hbw (set_grown _ _ _ _) (by omega)) (set_grown _ _ _ _) (by omega), Acc.weak (base := w.heap.size + 3) ?_ (by omega)⟩
      have hne : ∀ row, row = some (w.heap.size + 1) → ((Value.slice A' n c').ownBlock = none ∨ (Value.slice A' n c').ownBlock ≠ row) := fun row e => by
        cases ho : (Value.slice A' n c').ownBlock with
        | none => exact .inl rfl
        | some g => exact .inr (fun e' => by rw [e] at e'; injection e' with e'; have := (hown g ho).1; omega)
      exact (hacc.grown (set_grown _ _ _ _) (hne _ rfl) (fun g e => by injection e with e; omega)).grown (set_grown _ _ _ _) (hne _ rfl) (fun g e => by injection e with e; omega)
end Go.Proofs.YthecmbmidoagaaaDoor

/- The contract of 'condition': what a test asks of the cohorts around a place. Conditions: what the arguments read as; a place that there is; a test within its bounds. -/
import Derived.Test.YthecmbmidoagaaaDoorC7
import Derived.Test.YthecmbmidoagaaaDoorC4
namespace Go.Proofs.YthecmbmidoagaaaDoor
open Go.RowKit Go.Shelf
open Pl

attribute [local go_sem] Oper.semAt_some

/-- What the elements of a list of cohorts hold, as a function of the place. -/
theorem coh_fun {w : World} {A : Option Addr} {c : Nat} {l : List Coh} (h : Rd tCoh w (.slice A l.length c) l) :
    ∃ el : Nat → ByteArray × Option Addr × Nat × Nat, ∀ k, k < l.length → ∃ b off x, A = some ⟨b, off, none⟩ ∧ b < w.heap.size ∧ l[k]? = some x ∧ (el k).1 = x.1 ∧ Rd tRdg w (.slice (el k).2.1 (el k).2.2.1 (el k).2.2.2) x.2 ∧
      w.cell? ⟨b, off + k * 2, none⟩ = some (.string (el k).1) ∧ w.cell? ⟨b, off + k * 2 + 1, none⟩ = some (.slice (el k).2.1 (el k).2.2.1 (el k).2.2.2) := by
  have : ∀ k, ∃ p : ByteArray × Option Addr × Nat × Nat, k < l.length → ∃ b off x, A = some ⟨b, off, none⟩ ∧ b < w.heap.size ∧ l[k]? = some x ∧ p.1 = x.1 ∧ Rd tRdg w (.slice p.2.1 p.2.2.1 p.2.2.2) x.2 ∧
      w.cell? ⟨b, off + k * 2, none⟩ = some (.string p.1) ∧ w.cell? ⟨b, off + k * 2 + 1, none⟩ = some (.slice p.2.1 p.2.2.1 p.2.2.2) := by
    intro k
    by_cases hk : k < l.length
    · obtain ⟨b, off, x, u, h1, h2, h3, h4, h5, h6⟩ := h.coh hk
      obtain ⟨A', c', rfl, _, _⟩ := h4.form
      exact ⟨(x.1, A', x.2.length, c'), fun _ => ⟨b, off, x, h1, World.block_lt_of_cell? w _ h5, h2.out, rfl, h4, h5, h6⟩⟩
    · exact ⟨(⟨#[]⟩, none, 0, 0), fun h => absurd h hk⟩
  exact ⟨fun k => Classical.choose (this k), fun k => Classical.choose_spec (this k)⟩

theorem keeps_bw {B : Nat} {w w' : World} (h : Bw w w') : KeepsFrom B w w' := ⟨h.size, fun k _ _ hk _ => (h.block k (Array.getElem?_eq_some_iff.1 hk).1).trans hk⟩

theorem row_bw {w w' : World} {g : Nat} {o : Obj} (hb : Bw w w') (h : w.heap[g]? = some o) : w'.heap[g]? = some o := (hb.block g (Array.getElem?_eq_some_iff.1 h).1).trans h
theorem row_c0 {w : World} {g : Nat} {v : Value} {e : TypeId} {fz : Nat × Nat} (h : w.heap[g]? = some (.cells #[v] e fz)) : w.cell? ⟨g, 0, none⟩ = some v := by rw [cell_of_row w g 0 _ _ _ h]; rfl
theorem first_at {t : Tst} {l : List Coh} {pre : List Nat} {k : Nat} {y : Coh} (h : ∀ k ∈ pre, ∃ y, l[k]? = some y ∧ matB t y = false ∧ barB t y = false) (hy : l[k]? = some y) (hq : matB t y = true ∨ barB t y = true) (r : List Nat) :
    firstB t l ((pre ++ [k]) ++ r) = matB t y := by
  rw [List.append_assoc, first_skip h, List.singleton_append]
  unfold firstB
  rw [hy]
  simp only
  rcases hq with hq | hq
  · rw [hq]; rfl
  · rw [hq]; cases matB t y <;> rfl

set_option maxRecDepth 100000 in
set_option maxHeartbeats 4000000 in
theorem cond_any {t : Tst} {u1 u2 v : Value} {l : List Coh} {i : Int} {w : World} (h1 : Rd tStr w u1 t.tags) (h2 : Rd tStr w u2 t.bar) (hl : Rd tCoh w v l) (hi : 0 ≤ i ∧ i < l.length) (ha : -99 ≤ t.at' ∧ t.at' ≤ 99) (hm : l.length ≤ 200) :
    Calls Tryd.prog 52 #[.agg #[.int .i64 t.at', .bool t.scan, .bool t.neg, .bool t.care, u1, u2], v, .int .i64 i] w fun e w' => e = .returned (.bool (condB t l i)) ∧ Bw w w' := by
  rw [first_cond]
  refine (callsIn_wide (n := 3)).1 ?_
  obtain ⟨A, c, rfl, _, _⟩ := hl.form
  obtain ⟨el, hel⟩ := coh_fun hl
  have hb0 : Bw w (((((w.alloc (.cells #[.int .i64 t.at', .bool t.scan, .bool t.neg, .bool t.care, u1, u2] 28)).alloc (.cells #[.bool false] 4)).alloc (.cells #[.int .i64 t.at', .bool t.scan, .bool t.neg, .bool t.care, u1, u2] 28)).alloc (.cells #[.slice A l.length c] 29)).alloc (.cells #[.int .i64 i] 3)) := bw_al (bw_al (bw_al (bw_al (bw_refl_al w _) _) _) _) _
  obtain ⟨W0, hW0⟩ : ∃ W0, W0 = ((((w.alloc (.cells #[.int .i64 t.at', .bool t.scan, .bool t.neg, .bool t.care, u1, u2] 28)).alloc (.cells #[.bool false] 4)).alloc (.cells #[.int .i64 t.at', .bool t.scan, .bool t.neg, .bool t.care, u1, u2] 28)).alloc (.cells #[.slice A l.length c] 29)).alloc (.cells #[.int .i64 i] 3) := ⟨_, rfl⟩
  have hsz : W0.heap.size = w.heap.size + 5 := by rw [hW0]; simp
  refine callsIn_of_wp_marks Tryd.func52 rfl trivial ?_ rfl
  simp only [Tryd.ntmps52, List.size_toArray, List.length_cons, List.length_nil, Nat.reduceAdd, Nat.reduceSub, Array.replicate_succ, Array.replicate_zero, List.push_toArray, List.append_toArray, List.nil_append, List.cons_append]
  gi_wp2_with (refine ⟨trivial, ?_⟩; gi_at_call 69; refine (vis_in Fence.wide _ trivial rfl _ _ _ _ _ _ _ _ _ _ _).mono ?_; rintro e w' ⟨rfl, rfl⟩)
  rw [← hW0] at hb0 ⊢
  have hW1 : ∀ j v, (#[Value.int .i64 t.at', .bool t.scan, .bool t.neg, .bool t.care, u1, u2] : Array Value)[j]? = some v → W0.cell? ⟨w.heap.size, j, none⟩ = some v := fun j v hj => by
    have e : W0.heap[w.heap.size]? = some (.cells #[Value.int .i64 t.at', .bool t.scan, .bool t.neg, .bool t.care, u1, u2] 28) := by rw [hW0]; exact at_old (at_old (at_old (at_old (at_new rfl))))
    rw [cell_of_row W0 _ j _ _ _ e]; exact hj
  have hW2 : ∀ j v, (#[Value.int .i64 t.at', .bool t.scan, .bool t.neg, .bool t.care, u1, u2] : Array Value)[j]? = some v → W0.cell? ⟨w.heap.size + 2, j, none⟩ = some v := fun j v hj => by
    have e : W0.heap[w.heap.size + 2]? = some (.cells #[Value.int .i64 t.at', .bool t.scan, .bool t.neg, .bool t.care, u1, u2] 28) := by rw [hW0]; exact at_old (at_old (at_new (by simp)))
    rw [cell_of_row W0 _ j _ _ _ e]; exact hj
  have hWr : W0.heap[w.heap.size + 1]? = some (.cells #[.bool false] 4) := by rw [hW0]; exact at_old (at_old (at_old (at_new (by simp))))
  have hWl : W0.cell? ⟨w.heap.size + 3, 0, none⟩ = some (.slice A l.length c) := by
    have e : W0.heap[w.heap.size + 3]? = some (.cells #[.slice A l.length c] 29) := by rw [hW0]; exact at_old (at_new (by simp))
    rw [cell_of_row W0 _ 0 _ _ _ e]; rfl
  have hWi : W0.cell? ⟨w.heap.size + 4, 0, none⟩ = some (.int .i64 i) := by
    have e : W0.heap[w.heap.size + 4]? = some (.cells #[.int .i64 i] 3) := by rw [hW0]; exact at_new (by simp)
    rw [cell_of_row W0 _ 0 _ _ _ e]; rfl
  clear hW0
  have hseq : SeqStopsK Fence.wide (3 - 1) Tryd.prog 76 #[.pointer (some ⟨w.heap.size + 1 + 1, 0, none⟩), .pointer (some ⟨w.heap.size + 1 + 1 + 2, 0, none⟩), .pointer (some ⟨w.heap.size + 1 + 1 + 1, 0, none⟩)]
      (fun x : Ix' l.length => #[Value.agg #[.string (el x.1).1, .slice (el x.1).2.1 (el x.1).2.2.1 (el x.1).2.2.2]]) (Below W0.heap.size) (fun ys => ys.map (·.1) = visL t l.length i) (fun pre => ∃ r, pre.map (·.1) ++ r = visL t l.length i) (l.length + 1) W0 :=
    fun lo J Jx W hW _ _ hY h0 => vis1_in Fence.wide _ trivial rfl (by omega) lo (w.heap.size + 1 + 1) (w.heap.size + 1 + 1 + 2) (w.heap.size + 1 + 1 + 1) W0.heap.size t l.length c i A (fun k => ((el k).1, .slice (el k).2.1 (el k).2.2.1 (el k).2.2.2)) (by omega) hi ha J Jx hY W (by omega) (by omega)
      (bw_cell hW (hW2 0 _ rfl)) (bw_cell hW (hW2 1 _ rfl)) (bw_cell hW hWi) (bw_cell hW hWl)
      (fun k hk => by obtain ⟨b, off, x, e1, e2, _, _, _, e3, e4⟩ := hel k hk; exact ⟨b, off, e1, by omega, bw_cell (hb0.then hW) e3, bw_cell (hb0.then hW) e4⟩) h0
  refine wpIn_rangeFunc_ownH rfl (by omega) (gf := 76) (lb := #[.pointer (some ⟨w.heap.size + 1 + 1, 0, none⟩), .pointer (some ⟨w.heap.size + 1 + 1 + 2, 0, none⟩), .pointer (some ⟨w.heap.size + 1 + 1 + 1, 0, none⟩)]) rfl trivial (enters_of Tryd.func76 (by kernel_rfl) rfl)
    hseq belowK_t (belowK_b (by omega)) (Below.refl _ _) (fun _ => rfl)
    (fun pre W => (∀ k ∈ pre.map (·.1), ∃ y, l[k]? = some y ∧ matB t y = false ∧ barB t y = false) ∧ Below W0.heap.size W0 W)
    (fun j pre W => (∃ b, j = .ret ∧ (∀ r, firstB t l (pre.map (·.1) ++ r) = b) ∧ W.cell? ⟨w.heap.size + 1, 0, none⟩ = some (.bool b)) ∧ Below w.heap.size w W)
    (OwnFrom.and (ownFrom_pure _ _) (ownFrom_below (Nat.le_refl _) (by omega)))
    (fun j => OwnFrom.and (Own.from (fun s X Y row hs hg hr => by obtain ⟨b, e1, e2, e3⟩ := hs; exact ⟨b, e1, e2, cell_kept e3 hg hr⟩) _) (ownFrom_below (Nat.le_refl _) (by omega)))
    ⟨by simp, Below.refl _ _⟩
    (fun x a' W => ∃ Bx, W0.heap.size ≤ Bx ∧ W.heap[Bx]? = some (.cells #[.string (el x.1).1, .slice (el x.1).2.1 (el x.1).2.2.1 (el x.1).2.2.2] 37) ∧ a' = { tmps := #[.agg #[.int .i64 t.at', .bool t.scan, .bool t.neg, .bool t.care, u1, u2], .slice A l.length c, .int .i64 i, .pointer (some ⟨w.heap.size, 0, none⟩), undef, undef, .pointer (some ⟨w.heap.size + 1, 0, none⟩), .pointer (some ⟨Bx, 0, none⟩), .agg #[.int .i64 t.at', .bool t.scan, .bool t.neg, .bool t.care, u1, u2], .slice A l.length c, .int .i64 i, .func (.func 76) #[] #[.pointer (some ⟨w.heap.size + 1 + 1, 0, none⟩), .pointer (some ⟨w.heap.size + 1 + 1 + 2, 0, none⟩), .pointer (some ⟨w.heap.size + 1 + 1 + 1, 0, none⟩)], .agg #[.string (el x.1).1, .slice (el x.1).2.1 (el x.1).2.2.1 (el x.1).2.2.2], undef, undef, undef, undef, undef, undef], defers := [] })
    (fun x a' s X Y row hs hg hr => by
      obtain ⟨Bx, e1, e2, e3⟩ := hs
      refine ⟨Bx, e1, (hg.block Bx (Array.getElem?_eq_some_iff.1 e2).1 (fun e => ?_)).trans e2, e3⟩
      obtain ⟨_, o, ho, hc⟩ := hr Bx e.symm
      rw [e2] at ho; cases ho; cases hc)
    ?assign ?body ?done ?stop
  case assign =>
    rintro lo pre x W K ⟨hpre, hB⟩ hK
    gi_wp2
    exact hK _ _ ((KeepsOthers.alloc _ _).from _) ((Below.refl _ W).alloc hB.size _) ⟨hpre, hB.alloc hB.size _⟩ ⟨W.heap.size, hB.size, World.alloc_heap_new W _, rfl⟩
  case body =>
    rintro lo pre x a' W hlo - ⟨hpre, hB⟩ ⟨Bx, hBx, hX, rfl⟩ hlen
    obtain ⟨b, off, y, rfl, hb, hy, hy1, hyr, _, _⟩ := hel x.1 x.2
    have hwW : Bw w W := hb0.then hB
    have c0 := bw_cell hB (hW1 0 _ rfl)
    have c1 := bw_cell hB (hW1 1 _ rfl)
    have c2 := bw_cell hB (hW1 2 _ rfl)
    have c3 := bw_cell hB (hW1 3 _ rfl)
    have c4 := bw_cell hB (hW1 4 _ rfl)
    have c5 := bw_cell hB (hW1 5 _ rfl)
    have x0 : W.cell? ⟨Bx, 0, none⟩ = some (.string (el x.1).1) := by rw [cell_of_row W _ 0 _ _ _ hX]; rfl
    have x1 : W.cell? ⟨Bx, 1, none⟩ = some (.slice (el x.1).2.1 (el x.1).2.2.1 (el x.1).2.2.2) := by rw [cell_of_row W _ 1 _ _ _ hX]; rfl
    have hrow := (hB.block (w.heap.size + 1) (by omega)).trans hWr
    have HM := Lib.hid (mat_any (t := t) (u2 := u2) (c := y) (h1.after hwW) (hyr.after hwW))
    have HR := Lib.hid (fun (W2 : World) (hb2 : Bw W W2) => bar_any (t := t) (u1 := u1) (c := y) (h2.after (hwW.then hb2)) (hyr.after (hwW.then hb2)))
    rw [← hy1] at HM HR
    have Hy := Lib.hid hy
    have Hpre := Lib.hid hpre
    have HWr := Lib.hid hrow
    clear hel hseq hW1 hW2 hWr hWl hWi h1 h2 hl hyr hpre hy hy1 hX hrow
    cases q1 : matB t y
    · rw [q1] at HM
      cases q2 : barB t y
      · rw [q2] at HR
        have Hq1 := Lib.hid q1
        have Hq2 := Lib.hid q2
        clear q1 q2
        gi_wp2_with (first
          | (refine ⟨trivial, ?_⟩; gi_at_call 70; (with_reducible refine (CallsIn.inRound lo (callsIn_wide.2 HM.out)).mono ?_); rintro e W2 ⟨rfl, hb2⟩; have mc := row_c0 (row_bw hb2 HWr.out); have mf := frozen_of_cells (i := 0) (row_bw hb2 HWr.out); have k0 := bw_cell hb2 c0; have k1 := bw_cell hb2 c1; have k2 := bw_cell hb2 c2; have k3 := bw_cell hb2 c3; have k4 := bw_cell hb2 c4; have k5 := bw_cell hb2 c5; have z0 := bw_cell hb2 x0; have z1 := bw_cell hb2 x1)
          | (refine ⟨trivial, ?_⟩; gi_at_call 71; (with_reducible refine (CallsIn.inRound lo (callsIn_wide.2 (HR.out _ hb2))).mono ?_); rintro e W3 ⟨rfl, hb3⟩; have nc := row_c0 (row_bw hb3 (row_bw hb2 HWr.out)); have nf := frozen_of_cells (i := 0) (row_bw hb3 (row_bw hb2 HWr.out))))
        refine ⟨keeps_bw (hb2.then hb3), (hb2.then hb3).mono hB.size, ?_, hB.trans ((hb2.then hb3).mono hB.size)⟩
        intro k hk
        rw [List.map_append, List.mem_append] at hk
        rcases hk with hk | hk
        · exact Hpre.out k hk
        · simp at hk; subst hk; exact ⟨y, Hy.out, Hq1.out, Hq2.out⟩
      · rw [q2] at HR
        have Hf := Lib.hid (first_at Hpre.out Hy.out (.inr q2))
        rw [q1] at Hf
        clear q1 q2
        gi_wp2_with (first
          | (refine ⟨trivial, ?_⟩; gi_at_call 70; (with_reducible refine (CallsIn.inRound lo (callsIn_wide.2 HM.out)).mono ?_); rintro e W2 ⟨rfl, hb2⟩; have mc := row_c0 (row_bw hb2 HWr.out); have mf := frozen_of_cells (i := 0) (row_bw hb2 HWr.out); have k0 := bw_cell hb2 c0; have k1 := bw_cell hb2 c1; have k2 := bw_cell hb2 c2; have k3 := bw_cell hb2 c3; have k4 := bw_cell hb2 c4; have k5 := bw_cell hb2 c5; have z0 := bw_cell hb2 x0; have z1 := bw_cell hb2 x1)
          | (refine ⟨trivial, ?_⟩; gi_at_call 71; (with_reducible refine (CallsIn.inRound lo (callsIn_wide.2 (HR.out _ hb2))).mono ?_); rintro e W3 ⟨rfl, hb3⟩; have nc := row_c0 (row_bw hb3 (row_bw hb2 HWr.out)); have nf := frozen_of_cells (i := 0) (row_bw hb3 (row_bw hb2 HWr.out))))
        refine ⟨(keeps_bw (hb2.then hb3)).trans ((KeepsOthers.setCell _ _ _).from _), ⟨false, rfl, fun r => ?_, World.cell?_setCell_same' _ _ _ (by rw [nc]; rfl)⟩, (hwW.then (hb2.then hb3)).setCell (p := ⟨w.heap.size + 1, 0, none⟩) (Nat.le_succ _) _⟩
        rw [List.map_append]
        exact Hf.out r
    · rw [q1] at HM
      have Hf := Lib.hid (first_at Hpre.out Hy.out (.inl q1))
      rw [q1] at Hf
      clear q1
      gi_wp2_with ((refine ⟨trivial, ?_⟩; gi_at_call 70; (with_reducible refine (CallsIn.inRound lo (callsIn_wide.2 HM.out)).mono ?_); rintro e W2 ⟨rfl, hb2⟩; have mc := row_c0 (row_bw hb2 HWr.out); have mf := frozen_of_cells (i := 0) (row_bw hb2 HWr.out)))
      refine ⟨(keeps_bw hb2).trans ((KeepsOthers.setCell _ _ _).from _), ⟨true, rfl, fun r => ?_, World.cell?_setCell_same' _ _ _ (by rw [mc]; rfl)⟩, (hwW.then hb2).setCell (p := ⟨w.heap.size + 1, 0, none⟩) (Nat.le_succ _) _⟩
      rw [List.map_append]
      exact Hf.out r
  case done =>
    rintro D ys W hD hS ⟨hpre, hB⟩ hK
    have hrow := row_bw hB hWr
    have mc := row_c0 hrow
    have mf := frozen_of_cells (i := 0) hrow
    have hv : firstB t l (visL t l.length i) = false := by
      rw [← hS, ← List.append_nil (List.map (·.1) ys), first_skip hpre]; rfl
    have Hv := Lib.hid hv
    clear hel hseq hW1 hW2 hWr hWl hWi h1 h2 hl hpre hS hv hrow
    gi_wp2
    have hK' := (KeepsOthers.setCell W ⟨w.heap.size + 1, 0, none⟩ (.bool false)).same D _ hK rfl
    refine ⟨by simp, .inl ⟨_, _, rfl, run_takeDeferred hK', ?_⟩⟩
    have hc5 := cell_kept (World.cell?_setCell_same' W ⟨w.heap.size + 1, 0, none⟩ (.bool false) (by rw [mc]; rfl)) (grownBy_putObj' _ D (.deferred none)) (fun r e => by cases e; exact ⟨_, hK', rfl⟩)
    refine ⟨.bool false, ?_, ret_b Hv.out.symm, ((hb0.then hB).setCell (p := ⟨w.heap.size + 1, 0, none⟩) (Nat.le_succ _) _).trans (belowK_b (w := w) (Nat.le_refl _) _ D _ _ (by omega) hK' rfl rfl)⟩
    simp [results, Tryd.f52, go_sem, hc5]
  case stop =>
    rintro D c pre W hD ⟨r, hpre⟩ ⟨⟨b, rfl, hf, hcr⟩, hB⟩ hK
    have hv : firstB t l (visL t l.length i) = b := by rw [← hpre]; exact hf r
    have Hv := Lib.hid hv
    clear hel hseq hW1 hW2 hWr hWl hWi h1 h2 hl hpre hf hv
    gi_wp2
    refine ⟨by simp, .inl ⟨_, _, rfl, run_takeDeferred hK, ?_⟩⟩
    have hc5 := cell_kept hcr (grownBy_putObj' _ D (.deferred none)) (fun r e => by cases e; exact ⟨_, hK, rfl⟩)
    refine ⟨.bool b, ?_, ret_b Hv.out.symm, hB.trans (belowK_b (w := w) (Nat.le_refl _) W D _ _ (by omega) hK rfl rfl)⟩
    simp [results, Tryd.f52, go_sem, hc5]
end Go.Proofs.YthecmbmidoagaaaDoor

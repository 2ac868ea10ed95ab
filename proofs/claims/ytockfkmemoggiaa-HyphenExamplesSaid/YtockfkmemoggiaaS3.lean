/- The contract of the program's key of an onset. -/
import Derived.Test.YtockfkmemoggiaaS2
namespace Go.Proofs.Ytockfkmemoggiaa
open Go.RowKit Go.Maps
open Pl

/-- An onset as the program's key: four numbers, filled with 0. -/
def onV (l : List Int) : Value := .agg #[.int .i64 (l.getD 0 0), .int .i64 (l.getD 1 0), .int .i64 (l.getD 2 0), .int .i64 (l.getD 3 0)]

/-- What 'copy' leaves in a block of four zeros. -/
theorem copy4 {A : Option Addr} {n c : Nat} {l : List Int} {w : World} (h : Rd tInt w (.slice A n c) l) (h1 : 1 ≤ l.length) (h4 : l.length ≤ 4) :
    ∃ w1, (Builtin.copy_ #[22, 22] 3 #[.slice (some ⟨w.heap.size, 0, none⟩) 4 4, .slice A n c]).run Try.prog (w.alloc (.cells #[.int .i64 0, .int .i64 0, .int .i64 0, .int .i64 0] 72)) = .ok (.int .i64 n) w1 ∧ Bw w w1 ∧
      w.heap.size < w1.heap.size ∧ ∃ cs : Array Value, w1.heap[w.heap.size]? = some (.cells cs 72 (0, 0)) ∧ cs[0]? = some (.int .i64 (l.getD 0 0)) ∧ cs[1]? = some (.int .i64 (l.getD 1 0)) ∧
        cs[2]? = some (.int .i64 (l.getD 2 0)) ∧ cs[3]? = some (.int .i64 (l.getD 3 0)) := by
  have hn : n = l.length := by obtain ⟨A', c', e, _⟩ := h; injection e
  obtain ⟨b, off, x0, rfl, _⟩ := h.int (k := 0) (by omega)
  have hB : Bw w (w.alloc (.cells #[.int .i64 0, .int .i64 0, .int .i64 0, .int .i64 0] 72)) := (Below.refl _ _).alloc (Nat.le_refl _) _
  have hsrc : ∀ j v, (l.map (Value.int .i64))[j]? = some v → (w.alloc (.cells #[.int .i64 0, .int .i64 0, .int .i64 0, .int .i64 0] 72)).cell? ((⟨b, off, none⟩ : Addr).add j) = some v := by
    intro j v hj
    rw [List.getElem?_map] at hj
    cases hx : l[j]? with
    | none => rw [hx] at hj; cases hj
    | some x =>
      rw [hx] at hj; injection hj with hj; subst hj
      obtain ⟨b', off', x', e, hx', _, _, hc⟩ := (h.after hB).int (k := j) (List.getElem?_eq_some_iff.1 hx).1
      injection e with e; injection e with e1 e2; subst e1; subst e2
      have := hx'.out; rw [hx] at this; injection this with this; subst this
      rw [← hc]
      congr 1
      unfold Addr.add
      split
      · rename_i e; subst e; rfl
      · rfl
  have hrun := run_copy_row (P := Try.prog) (w.alloc (.cells #[.int .i64 0, .int .i64 0, .int .i64 0, .int .i64 0] 72)) 22 22 3 3 w.heap.size 0 4 4 ⟨b, off, none⟩ n c _ 72 (l.map (Value.int .i64)) Try.underlying22 (by kernel_rfl)
    (heap_alloc_new w _) (by rw [List.length_map, hn]; simp [Nat.min_def]; omega) hsrc (by rw [List.length_map]; simpa using h4) (by intro v hv; obtain ⟨a, _, rfl⟩ := List.mem_map.1 hv; rfl)
  refine ⟨_, hrun.trans (by rw [List.length_map, ← hn]; rfl), ?_, ?_, _, setRow_heap _ _ _ _ _ _ (heap_alloc_new w _), ?_⟩
  · exact ⟨rfl, rfl, rfl, by simp, fun k hk => (setRow_other _ _ k _ (by omega)).trans (hB.block k hk)⟩
  · simp
  · clear hrun hsrc h
    match l, h1, h4 with
    | [a], _, _ => simp at hn; subst hn; simp
    | [a, b], _, _ => simp at hn; subst hn; simp
    | [a, b, c], _, _ => simp at hn; subst hn; simp
    | [a, b, c, d], _, _ => simp

theorem key_any {v : Value} {l : List Int} {w : World} (h : Rd tInt w v l) (h1 : 1 ≤ l.length) (h4 : l.length ≤ 4) :
    Calls Try.prog 38 #[v] w fun e w' => e = .returned (onV l) ∧ Bw w w' := by
  obtain ⟨A, c, rfl, _, _⟩ := h.form
  obtain ⟨w1, hrun, hB, hlt, cs, hg, c0, c1, c2, c3⟩ := copy4 h h1 h4
  have d0 : w1.cell? ⟨w.heap.size, 0, none⟩ = some (.int .i64 (l.getD 0 0)) := (cell_of_row w1 _ 0 cs 72 (0, 0) hg).trans c0
  have d1 : w1.cell? ⟨w.heap.size, 1, none⟩ = some (.int .i64 (l.getD 1 0)) := (cell_of_row w1 _ 1 cs 72 (0, 0) hg).trans c1
  have d2 : w1.cell? ⟨w.heap.size, 2, none⟩ = some (.int .i64 (l.getD 2 0)) := (cell_of_row w1 _ 2 cs 72 (0, 0) hg).trans c2
  have d3 : w1.cell? ⟨w.heap.size, 3, none⟩ = some (.int .i64 (l.getD 3 0)) := (cell_of_row w1 _ 3 cs 72 (0, 0) hg).trans c3
  have f0 : ∀ i, w1.frozen? ⟨w.heap.size, i, none⟩ = false := fun i => frozen_of_cells hg
  unfold onV
  generalize l.getD 0 0 = a0 at *
  generalize l.getD 1 0 = a1 at *
  generalize l.getD 2 0 = a2 at *
  generalize l.getD 3 0 = a3 at *
  generalize l.length = n at *
  clear h hg c0 c1 c2 c3
  go_enter Try.func38, Try.ntmps38
  go_wp2_with fail
  refine bodyPost_ret (v := .agg #[.int .i64 a0, .int .i64 a1, .int .i64 a2, .int .i64 a3]) ?_ rfl ⟨rfl, ?_⟩
  · simp [results, Try.results38, go_sem, d0, d1, d2, d3]
  · exact (((hB.setCell (Nat.le_refl _) _).setCell (Nat.le_refl _) _).setCell (Nat.le_refl _) _).setCell (Nat.le_refl _) _
end Go.Proofs.Ytockfkmemoggiaa

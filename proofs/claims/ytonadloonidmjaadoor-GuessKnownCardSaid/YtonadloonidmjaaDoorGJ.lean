/- The key of a count in memory: how it is built, laid, filled. Conditions: none. -/
import Derived.Test.YtonadloonidmjaaDoorGK
import Derived.Deep.WholeRow
import Derived.Laws.CopyRow
namespace Go.Proofs.YtonadloonidmjaaDoor
open Go.RowKit
open Pl

def lit0 (n : Int) (t : ByteArray) : List Value := .int .i64 n :: (List.replicate 40 (.int .i64 0) ++ [.string t])
theorem lit0_len (n : Int) (t : ByteArray) : (lit0 n t).length = 42 := by simp [lit0]
theorem keyL_none (t : ByteArray) : keyL ([], t) = lit0 0 t := by unfold keyL lit0 pad; simp
theorem size49 : (Tryd.prog.info? 49).map (·.size) = some 42 := by kernel_rfl
theorem size3 : (Tryd.prog.info? 3).map (·.size) = some 1 := by kernel_rfl
theorem run_build49 (n : Int) (t : ByteArray) (w : World) : (Instr.build 49 #[(0, .int .i64 n), (2, .string t)]).run Tryd.prog w = .ok (.agg (lit0 n t).toArray) w := by
  simp only [Instr.build, Sem.run_bind, Tryd.zeroValue49, run_underlying Tryd.underlying49, Result.andThen_ok]
  simp [Tryd.sizeOf3, Tryd.sizeOf9, Tryd.sizeOf47, Result.andThen]
  rfl

section
variable {ops : Array Oper} {rest : List Oper} {o o1 o2 : Oper} {a : Act} {w : World} {Q : Exit → Act → World → Prop}
theorem wpList_build49 (hg : o.guard = none) (x s : Operand) (ho : o.op = .build 49 #[(0, x), (2, s)]) {n : Int} {t : ByteArray} (hx : a.eval x = .int .i64 n) (hs : a.eval s = .string t)
    (next : wpList Tryd.prog ops Q rest (a.put o.dst (.agg (lit0 n t).toArray)) w) : wpList Tryd.prog ops Q (o :: rest) a w := by
  refine wpList_plain hg fun K hK => ?_
  have hr := run_build49 n t w
  unfold Oper.wp execOp
  simp only [ho, List.map_toArray, List.map_cons, List.map_nil, hx, hs, Sem.run_bind, hr, Result.andThen_ok, Sem.run_pure]
  exact hK _ _ next
/-- A box for a key: 'alloc', then 'store'. -/
theorem wpList_box49 (g1 : o1.guard = none) (g2 : o2.guard = none) (h1 : o1.op = .alloc 49) (p v : Operand) (h2 : o2.op = .store 49 p v) {cs : List Value} (hl : cs.length = 42) (h3 : ∀ u ∈ cs, u.oneCell' = true)
    (hp : (a.put o1.dst (.pointer (some ⟨w.heap.size, 0, none⟩))).eval p = .pointer (some ⟨w.heap.size, 0, none⟩)) (hv : (a.put o1.dst (.pointer (some ⟨w.heap.size, 0, none⟩))).eval v = .agg cs.toArray)
    (next : wpList Tryd.prog ops Q rest ((a.put o1.dst (.pointer (some ⟨w.heap.size, 0, none⟩))).put o2.dst undef) (w.alloc (.cells cs.toArray 49))) : wpList Tryd.prog ops Q (o1 :: o2 :: rest) a w := by
  refine wpList_plain g1 fun K hK => ?_
  obtain ⟨z, hz, hzs⟩ : ∃ z : Array Value, (∀ u, (zeroValue 49).run Tryd.prog u = .ok (.agg z) u) ∧ z.size = 42 := ⟨_, Tryd.zeroValue49, rfl⟩
  have hr : (Instr.alloc 49 true (.tuple #[])).run Tryd.prog w = .ok (.pointer (some ⟨w.heap.size, 0, none⟩)) (w.alloc (.cells z 49)) := by
    simp [Instr.alloc, hz, newVar, newRow, Value.cells, Result.andThen]
  unfold Oper.wp execOp
  simp only [h1, Sem.run_bind, hr, Result.andThen_ok, Sem.run_pure]
  refine hK _ _ (wpList_plain g2 fun K' hK' => ?_)
  have hr2 := run_storeAt_new (P := Tryd.prog) w 49 z cs.toArray (by rw [size49]; simp [hl]) (by simp [hl, hzs]) (all_oneCell_toArray h3)
  unfold Oper.wp execOp
  simp only [h2, hp, hv, Sem.run_bind, hr2, Result.andThen_ok, Sem.run_pure]
  exact hK' _ _ next
/-- 'copy' at a step of a region that draws its order. -/
theorem step_copy {K : Act → World → Prop} {E : Prop} {P : Program} {t t' : TypeId} (hgd : o.guard = none) (d s : Operand) (ho : o.op = .call { callee := .builtin .copy, args := #[d, s], argTypes := #[t, t'] }) {v : Value} {w' : World}
    (hr : (Builtin.copy_ #[t, t'] o.type #[a.eval d, a.eval s]).run P w = .ok v w') (next : K (a.put o.dst v) w') : if Region.wanted o (yielded ops a.tmps) = true then Oper.wp P o a w K Q else E := by
  rw [if_pos (by simp [Region.wanted, hgd])]
  unfold Oper.wp execOp
  simp only [ho, resolve, invoke, builtin, Sem.run_bind, Sem.run_pure, Result.andThen_ok, List.map_toArray, List.map_cons, List.map_nil, hr]
  exact next
/-- The two halves of 'm[x]++' at a step of a region that draws its order. -/
theorem step_mapEntry {K : Act → World → Prop} {E : Prop} {P : Program} {t : TypeId} (hgd : o.guard = none) (m x : Operand) (ho : o.op = .mapEntry t m x) {v : Value} {w' : World}
    (hr : (Instr.mapEntry t (a.eval m) (a.eval x)).run P w = .ok v w') (next : K (a.put o.dst v) w') : if Region.wanted o (yielded ops a.tmps) = true then Oper.wp P o a w K Q else E := by
  rw [if_pos (by simp [Region.wanted, hgd])]
  unfold Oper.wp execOp
  simp only [ho, Sem.run_bind, hr, Result.andThen_ok, Sem.run_pure]
  exact next
theorem step_entryStore {K : Act → World → Prop} {E : Prop} {P : Program} {t : TypeId} (hgd : o.guard = none) (m s x : Operand) (ho : o.op = .entryStore t m s x) {w' : World}
    (hr : (Instr.entryStore t (a.eval m) (a.eval s) (a.eval x)).run P w = .ok () w') (next : K (a.put o.dst undef) w') : if Region.wanted o (yielded ops a.tmps) = true then Oper.wp P o a w K Q else E := by
  rw [if_pos (by simp [Region.wanted, hgd])]
  unfold Oper.wp execOp
  simp only [ho, Sem.run_bind, hr, Result.andThen_ok, Sem.run_pure]
  exact next
end

/-- The ending copied into the key. -/
theorem copy_key {w : World} {g m c : Nat} {A : Option Addr} {ys : List Int} {t : ByteArray} {D : Nat → Prop} {ty : TypeId} (hg : w.heap[g]? = some (.cells (lit0 ys.length t).toArray 49 (0, 0))) (hy : Sl tInt w D (.slice A m c) ys) (hl : ys.length ≤ 40) :
    ∃ (v : Value) (w2 : World), (Builtin.copy_ #[25, 25] ty #[.slice (some ⟨g, 1, none⟩) 40 40, .slice A m c]).run Tryd.prog w = .ok v w2 ∧ w2.heap[g]? = some (.cells (keyL (ys, t)).toArray 49 (0, 0)) ∧ w.grownBy w2 (some g) ∧ w2.heap.size = w.heap.size := by
  obtain ⟨A', c', e0, h1, h2, hrow⟩ := hy
  injection e0 with e1 e2 e3
  subst e1; subst e2; subst e3
  by_cases h0 : ys = []
  · subst h0
    refine ⟨_, w, run_copy_none w 25 25 ty 3 _ _ _ _ _ _ Tryd.underlying25 size3 (by simp), ?_, ⟨rfl, rfl, rfl, Nat.le_refl _, fun _ _ _ => rfl⟩, rfl⟩
    rw [keyL_none]; exact hg
  · rcases hrow with h | ⟨b, off, rfl, hD, hx⟩
    · exact absurd h h0
    · have hr := run_copy_row (P := Tryd.prog) w 25 25 ty 3 g 1 40 40 ⟨b, off, none⟩ ys.length c (lit0 ys.length t).toArray 49 (ys.map (Value.int .i64)) Tryd.underlying25 size3 hg (by
          rw [List.length_map]; exact (Nat.min_eq_left hl).symm) (fun j v hj => by
          rw [List.getElem?_map] at hj
          cases hy : ys[j]? with
          | none => rw [hy] at hj; cases hj
          | some y =>
            rw [hy] at hj; injection hj with hj; subst hj
            obtain ⟨cs, ⟨rfl, _⟩, q2⟩ := hx j y hy
            have := q2 0 _ rfl
            rw [Addr.add_mid]
            simpa [tInt] using this) (by simp [lit0_len]; omega) (fun v hv => by
          obtain ⟨y, _, rfl⟩ := List.mem_map.1 hv; rfl)
      have hcs : (lit0 ys.length t).toArray.toList.take 1 ++ ys.map (Value.int .i64) ++ (lit0 ys.length t).toArray.toList.drop (1 + (ys.map (Value.int .i64)).length) = keyL (ys, t) := by
        unfold lit0 keyL pad
        simp only [List.take_succ_cons, List.take_zero, List.length_map]
        rw [Nat.add_comm 1 ys.length, List.drop_succ_cons, List.drop_append_of_le_length (by simp; omega), List.drop_replicate, List.map_append, List.map_replicate]
        simp
      rw [hcs] at hr
      refine ⟨_, _, hr, setRow_heap w g _ _ _ _ hg, ⟨rfl, rfl, rfl, by simp [World.setRow], fun k _ hk => ?_⟩, by simp [World.setRow]⟩
      have : g ≠ k := fun e => hk (by rw [e])
      simp [World.setRow, Array.getElem?_modify, this]

/-- The ending in a key reads as it is. -/
theorem key_slice {w : World} {g : Nat} {x : Ky} {fz : Nat × Nat} (hx : KyOk x) (hg : w.heap[g]? = some (.cells (keyL x).toArray 49 fz)) {D : Nat → Prop} (hD : D g) : Sl tInt w D (.slice (some ⟨g, 1, none⟩) x.1.length 40) x.1 := by
  refine ⟨_, 40, rfl, hx.1, by simp [maxLen], .inr ⟨g, 1, rfl, hD, fun j y hj => ⟨[.int .i64 y], ⟨rfl, hx.2.1 y (List.mem_of_getElem? hj)⟩, fun i u hi => ?_⟩⟩⟩
  have hjl := (List.getElem?_eq_some_iff.1 hj).1
  cases i with
  | zero =>
    simp at hi; subst hi
    rw [show 1 + j * tInt.size + 0 = j + 1 by simp [tInt]; omega, cell_of_row w g (j + 1) _ 49 fz hg]
    unfold keyL pad
    simp [List.getElem?_append_left, hjl]
    exact (List.getElem?_eq_some_iff.1 hj).2
  | succ i => simp at hi
theorem key_n {w : World} {g : Nat} {x : Ky} {fz : Nat × Nat} (hg : w.heap[g]? = some (.cells (keyL x).toArray 49 fz)) : w.cell? ⟨g, 0, none⟩ = some (.int .i64 x.1.length) := by
  rw [cell_of_row w g 0 _ _ _ hg]; rfl
theorem key_t {w : World} {g : Nat} {x : Ky} {fz : Nat × Nat} (hx : x.1.length ≤ 40) (hg : w.heap[g]? = some (.cells (keyL x).toArray 49 fz)) : w.cell? ⟨g, 41, none⟩ = some (.string x.2) := by
  rw [cell_of_row w g 41 _ _ _ hg]
  unfold keyL
  have := pad_len hx
  simp [this]
theorem load_key {w : World} {g : Nat} {x : Ky} {fz : Nat × Nat} (hx : x.1.length ≤ 40) (hg : w.heap[g]? = some (.cells (keyL x).toArray 49 fz)) : (Instr.loadAt 49 (.pointer (some ⟨g, 0, none⟩))).run Tryd.prog w = .ok (keyV x) w := by
  simp only [Instr.loadAt, Instr.sureAddr, Sem.run_bind, Sem.run_pure, Result.andThen_ok]
  exact run_loadVar_row _ _ _ _ _ _ _ hg Tryd.underlying49 rfl (by rw [size49]; simp [keyL_len hx])
theorem keyL_one {x : Ky} : ∀ u ∈ keyL x, u.oneCell' = true := fun u hu => by
  unfold keyL at hu
  simp only [List.mem_cons, List.mem_append, List.mem_map, List.not_mem_nil, or_false] at hu
  rcases hu with rfl | ⟨y, _, rfl⟩ | rfl <;> rfl
theorem lit0_one {n : Int} {t : ByteArray} : ∀ u ∈ lit0 n t, u.oneCell' = true := fun u hu => by
  unfold lit0 at hu
  simp only [List.mem_cons, List.mem_append, List.mem_replicate, List.not_mem_nil, or_false] at hu
  rcases hu with rfl | ⟨_, rfl⟩ | rfl <;> rfl
end Go.Proofs.YtonadloonidmjaaDoor

/- The drawn region of awake: what each of its operations lays. Conditions: none. -/
import Derived.Test.YtonadloonidmjaaDoorGA
import Derived.Test.YtonadloonidmjaaDoorInv
namespace Go.Proofs.YtonadloonidmjaaDoor
open Go.RowKit
open Pl

/-- What a slot holds. -/
inductive Kd where
  | N | B | C (z : Int) | T (t : ByteArray) | P (t : ByteArray) | S (t : ByteArray) | X (x : List Int) | E (e : En) | R (g : List En) | R6 (g : List En)
def Holdk (w : World) (v : Value) : Kd → Prop
  | .N => True
  | .B => v = .bool true
  | .C z => v = .int .i64 z
  | .T t => v = .string t
  | .P t => ∃ b off, v = .pointer (some ⟨b, off, none⟩) ∧ w.cell? ⟨b, off, none⟩ = some (.string t)
  | .S t => ∃ b off c, v = .slice (some ⟨b, off, none⟩) 1 c ∧ w.cell? ⟨b, off, none⟩ = some (.string t)
  | .X x => Rd tInt w v x
  | .E e => ∃ u, v = .agg #[u, .string e.2.1, .int .i64 e.2.2] ∧ Rd tInt w u e.1 ∧ e.2.1.size ≤ maxLen ∧ inI64 e.2.2
  | .R g => Rd tEn w v g
  | .R6 g => (∃ A c, v = .slice A 6 c ∧ 6 ≤ c ∧ c ≤ 9223372036854775807) ∧ Rd tEn w v g
def Ik (ks : List Kd) (d : Nat) (w : World) (v : Value) : Prop := Holdk w v (ks.getD d .N)
theorem holdk_keep {w w' : World} (hb : Bw w w') {v : Value} : ∀ k : Kd, Holdk w v k → Holdk w' v k
  | .N, h => h
  | .B, h => h
  | .C _, h => h
  | .T _, h => h
  | .P _, ⟨b, off, h1, h2⟩ => ⟨b, off, h1, bw_cell hb h2⟩
  | .S _, ⟨b, off, c, h1, h2⟩ => ⟨b, off, c, h1, bw_cell hb h2⟩
  | .X _, h => Sl.after h hb
  | .E _, ⟨u, h1, h2, h3⟩ => ⟨u, h1, h2.after hb, h3⟩
  | .R _, h => Sl.after h hb
  | .R6 _, ⟨h1, h2⟩ => ⟨h1, h2.after hb⟩

section
variable {ops : Array Oper} {Q : Exit → Act → World → Prop} {ks : List Kd} {i d : Nat} {o : Oper} {a : Act} {w : World}
theorem lay {k : Kd} {v : Value} {w' : World} (hd : o.dst = some d) (hk : ks.getD d .N = k) (h : Holdk w' v k) : ∀ d', o.dst = some d' → Ik ks d' w' v := fun d' e => by
  rw [hd] at e; injection e with e; subst e
  unfold Ik; rw [hk]; exact h
theorem enters14 : ∀ (args : Array Value) (W : World), (callFunc 14 args).run Tryd.prog W = .ok (.enter 14 args) W := enters_of Tryd.func14 (by kernel_rfl) rfl
theorem enters11 : ∀ (args : Array Value) (W : World), (callFunc 11 args).run Tryd.prog W = .ok (.enter 11 args) W := enters_of Tryd.func11 (by kernel_rfl) rfl
theorem k_move {s : Nat} {k : Kd} (ho : ops[i]? = some o) (hw : Region.wanted o (yielded ops a.tmps) = true) (hop : o.op = .move (.tmp s)) (hd : o.dst = some d) (hk : ks.getD d .N = k) (hs : ks.getD s .N = k) (h : Ik ks s w (a.eval (.tmp s))) :
    Stp Tryd.prog ops Q (Ik ks) i o a w := by
  refine stp_val ho hw (v := a.eval (.tmp s)) (w' := w) ?_ (Below.refl _ _) (lay hd hk ?_)
  · unfold execOp; simp only [hop, Sem.run_pure]
  · unfold Ik at h; rw [hs] at h; exact h
theorem k_assign {s : Nat} {k : Kd} (ho : ops[i]? = some o) (hw : Region.wanted o (yielded ops a.tmps) = true) (hop : o.op = .assign (.tmp s)) (hd : o.dst = some d) (hk : ks.getD d .N = k) (hs : ks.getD s .N = k) (h : Ik ks s w (a.eval (.tmp s))) :
    Stp Tryd.prog ops Q (Ik ks) i o a w := by
  refine stp_val ho hw (v := a.eval (.tmp s)) (w' := w) ?_ (Below.refl _ _) (lay hd hk ?_)
  · unfold execOp; simp only [hop, Sem.run_pure]
  · unfold Ik at h; rw [hs] at h; exact h
theorem k_pick {s u : Nat} (ho : ops[i]? = some o) (hw : Region.wanted o (yielded ops a.tmps) = true) (hop : o.op = .pick (.tmp s) (.tmp u) (.const (.bool false))) (hd : o.dst = some d) (h1 : a.eval (.tmp s) = .bool true) (h2 : a.eval (.tmp u) = .bool true) (hk : ks.getD d .N = .B) :
    Stp Tryd.prog ops Q (Ik ks) i o a w := by
  refine stp_val ho hw (v := .bool true) (w' := w) ?_ (Below.refl _ _) (lay hd hk rfl)
  unfold execOp; simp [hop, h1, h2, asBool]
theorem k_eq29 {s : Nat} {n : Int} (ho : ops[i]? = some o) (hw : Region.wanted o (yielded ops a.tmps) = true) (hop : o.op = .binOp .eql 29 (.tmp s) (.const (.int .i64 n)) 29) (hd : o.dst = some d) (h1 : a.eval (.tmp s) = .int .i64 n) (hk : ks.getD d .N = .B) :
    Stp Tryd.prog ops Q (Ik ks) i o a w := by
  refine stp_val ho hw (v := .bool true) (w' := w) ?_ (Below.refl _ _) (lay hd hk rfl)
  have hc : a.eval (.const (.int .i64 n)) = .int .i64 n := rfl
  unfold execOp; simp only [hop, h1, hc]; simp [go_sem]
theorem k_eq3 {s : Nat} {n : Int} (ho : ops[i]? = some o) (hw : Region.wanted o (yielded ops a.tmps) = true) (hop : o.op = .binOp .eql 3 (.tmp s) (.const (.int .i64 n)) 3) (hd : o.dst = some d) (h1 : a.eval (.tmp s) = .int .i64 n) (hk : ks.getD d .N = .B) :
    Stp Tryd.prog ops Q (Ik ks) i o a w := by
  refine stp_val ho hw (v := .bool true) (w' := w) ?_ (Below.refl _ _) (lay hd hk rfl)
  have hc : a.eval (.const (.int .i64 n)) = .int .i64 n := rfl
  unfold execOp; simp only [hop, h1, hc]; simp [go_sem]
theorem k_eq9 {s : Nat} {t : ByteArray} (ho : ops[i]? = some o) (hw : Region.wanted o (yielded ops a.tmps) = true) (hop : o.op = .binOp .eql 9 (.tmp s) (.const (.string t)) 9) (hd : o.dst = some d) (h1 : a.eval (.tmp s) = .string t) (hk : ks.getD d .N = .B) :
    Stp Tryd.prog ops Q (Ik ks) i o a w := by
  refine stp_val ho hw (v := .bool true) (w' := w) ?_ (Below.refl _ _) (lay hd hk rfl)
  have hc : a.eval (.const (.string t)) = .string t := rfl
  unfold execOp; simp only [hop, h1, hc]; simp [go_sem]
theorem k_len {s : Nat} {t : ByteArray} (ho : ops[i]? = some o) (hw : Region.wanted o (yielded ops a.tmps) = true) (hop : o.op = .call { callee := .builtin .len, args := #[.tmp s], argTypes := #[39] }) (hd : o.dst = some d) (h1 : Holdk w (a.eval (.tmp s)) (.S t)) (hk : ks.getD d .N = .C 1) :
    Stp Tryd.prog ops Q (Ik ks) i o a w := by
  obtain ⟨b, off, c, h1, _⟩ := h1
  refine stp_val ho hw (v := .int .i64 1) (w' := w) ?_ (Below.refl _ _) (lay hd hk rfl)
  unfold execOp
  simp only [hop, resolve, List.map_toArray, List.map_cons, List.map_nil, h1, Sem.run_bind, Sem.run_pure, Result.andThen_ok, invoke, builtin]
  simp [go_sem, Tryd.underlying39]
theorem k_index {s : Nat} {t : ByteArray} (ho : ops[i]? = some o) (hw : Region.wanted o (yielded ops a.tmps) = true) (hop : o.op = .indexAddr 39 (.tmp s) (.const (.int .i64 0))) (hd : o.dst = some d) (h1 : Holdk w (a.eval (.tmp s)) (.S t)) (hk : ks.getD d .N = .P t) :
    Stp Tryd.prog ops Q (Ik ks) i o a w := by
  obtain ⟨b, off, c, h1, h2⟩ := h1
  refine stp_val ho hw (v := .pointer (some ⟨b, off, none⟩)) (w' := w) ?_ (Below.refl _ _) (lay hd hk ⟨b, off, rfl, h2⟩)
  have hc : a.eval (.const (.int .i64 0)) = .int .i64 0 := rfl
  unfold execOp; simp only [hop, h1, hc]; simp [go_sem, Tryd.underlying39, Tryd.sizeOf9]
theorem k_load {s : Nat} {t : ByteArray} (ho : ops[i]? = some o) (hw : Region.wanted o (yielded ops a.tmps) = true) (hop : o.op = .load 9 (.tmp s)) (hd : o.dst = some d) (h1 : Holdk w (a.eval (.tmp s)) (.P t)) (hk : ks.getD d .N = .T t) :
    Stp Tryd.prog ops Q (Ik ks) i o a w := by
  obtain ⟨b, off, h1, h2⟩ := h1
  refine stp_val ho hw (v := .string t) (w' := w) ?_ (Below.refl _ _) (lay hd hk rfl)
  unfold execOp; simp only [hop, h1]; simp [go_sem, h2, Tryd.isAgg9]
theorem k_end {s : Nat} {x : List Int} {t : ByteArray} {n : Int} (ho : ops[i]? = some o) (hw : Region.wanted o (yielded ops a.tmps) = true) (hop : o.op = .call { callee := .value (.func 14), args := #[.const (.string t), .const (.int .i64 n), .tmp s], argTypes := #[9, 3, 25] }) (hd : o.dst = some d)
    (hk : ks.getD d .N = .E (x, t, n)) (h1 : Rd tInt w (a.eval (.tmp s)) x) (ht : t.size ≤ maxLen) (hn : inI64 n) : Stp Tryd.prog ops Q (Ik ks) i o a w := by
  obtain ⟨A, c, hs, _, _⟩ := h1.form
  refine stp_call ho hw (f := 14) (args := #[.string t, .int .i64 n, a.eval (.tmp s)]) ?_ ((end_any ⟨A, _, c, hs⟩).mono ?_)
  · have c1 : a.eval (.const (.string t)) = .string t := rfl
    have c2 : a.eval (.const (.int .i64 n)) = .int .i64 n := rfl
    have c3 : a.eval (.func 14) = .func (.func 14) #[] #[] := rfl
    unfold execOp
    simp only [hop, resolve, List.map_toArray, List.map_cons, List.map_nil, c1, c2, c3, Sem.run_bind]
    simp [Deferred.ofValue, invoke]
  · rintro e w' ⟨rfl, hb⟩
    exact ⟨_, rfl, hb, lay hd hk ⟨_, rfl, h1.after hb, ht, hn⟩⟩
theorem k_end0 {t : ByteArray} {n : Int} (ho : ops[i]? = some o) (hw : Region.wanted o (yielded ops a.tmps) = true) (hop : o.op = .call { callee := .value (.func 14), args := #[.const (.string t), .const (.int .i64 n), .const (.slice none 0 0)], argTypes := #[9, 3, 25] }) (hd : o.dst = some d)
    (hk : ks.getD d .N = .E ([], t, n)) (ht : t.size ≤ maxLen) (hn : inI64 n) : Stp Tryd.prog ops Q (Ik ks) i o a w := by
  refine stp_call ho hw (f := 14) (args := #[.string t, .int .i64 n, .slice none 0 0]) ?_ ((end_any ⟨none, 0, 0, rfl⟩).mono ?_)
  · have c1 : a.eval (.const (.string t)) = .string t := rfl
    have c2 : a.eval (.const (.int .i64 n)) = .int .i64 n := rfl
    have c3 : a.eval (.func 14) = .func (.func 14) #[] #[] := rfl
    have c4 : a.eval (.const (.slice none 0 0)) = .slice none 0 0 := rfl
    unfold execOp
    simp only [hop, resolve, List.map_toArray, List.map_cons, List.map_nil, c1, c2, c3, c4, Sem.run_bind]
    simp [Deferred.ofValue, invoke]
  · rintro e w' ⟨rfl, hb⟩
    exact ⟨_, rfl, hb, lay hd hk ⟨_, rfl, Sl.nil, ht, hn⟩⟩
theorem k_ints1 {x : Int} (ho : ops[i]? = some o) (hw : Region.wanted o (yielded ops a.tmps) = true) (hop : o.op = .buildSlice 25 1 #[(0, .const (.int .i64 x))]) (hd : o.dst = some d) (hk : ks.getD d .N = .X [x]) (hr : ([x].all fun y => decide (0 ≤ y) && decide (y ≤ 1000)) = true) :
    Stp Tryd.prog ops Q (Ik ks) i o a w := by
  refine stp_val ho hw (v := .slice (some ⟨w.heap.size, 0, none⟩) 1 1) (w' := w.alloc (.cells #[.int .i64 x] 3)) ?_ (bw_refl_al _ _) (lay hd hk (sl_ints (xs := [x]) (at_new rfl) (by simp) rfl (by simp) hr))
  have c1 : a.eval (.const (.int .i64 x)) = .int .i64 x := rfl
  unfold execOp; simp only [hop, List.map_toArray, List.map_cons, List.map_nil, c1]; simp [go_sem, Tryd.sizeOf3, Tryd.zeroValue3]
theorem k_ints2 {x y : Int} (ho : ops[i]? = some o) (hw : Region.wanted o (yielded ops a.tmps) = true) (hop : o.op = .buildSlice 25 2 #[(0, .const (.int .i64 x)), (1, .const (.int .i64 y))]) (hd : o.dst = some d) (hk : ks.getD d .N = .X [x, y]) (hr : ([x, y].all fun y => decide (0 ≤ y) && decide (y ≤ 1000)) = true) :
    Stp Tryd.prog ops Q (Ik ks) i o a w := by
  refine stp_val ho hw (v := .slice (some ⟨w.heap.size, 0, none⟩) 2 2) (w' := w.alloc (.cells #[.int .i64 x, .int .i64 y] 3)) ?_ (bw_refl_al _ _) (lay hd hk (sl_ints (xs := [x, y]) (at_new rfl) (by simp) rfl (by simp) hr))
  have c1 : a.eval (.const (.int .i64 x)) = .int .i64 x := rfl
  have c2 : a.eval (.const (.int .i64 y)) = .int .i64 y := rfl
  unfold execOp; simp only [hop, List.map_toArray, List.map_cons, List.map_nil, c1, c2]; simp [go_sem, Tryd.sizeOf3, Tryd.zeroValue3]
theorem k_same {s u : Nat} {g h : List En} (ho : ops[i]? = some o) (hw : Region.wanted o (yielded ops a.tmps) = true) (hop : o.op = .call { callee := .value (.func 11), args := #[.tmp s, .tmp u], argTypes := #[28, 28] }) (hd : o.dst = some d)
    (h1 : Rd tEn w (a.eval (.tmp s)) g) (h2 : Rd tEn w (a.eval (.tmp u)) h) (hgh : g = h) (hk : ks.getD d .N = .B) : Stp Tryd.prog ops Q (Ik ks) i o a w := by
  subst hgh
  refine stp_call ho hw (f := 11) (args := #[a.eval (.tmp s), a.eval (.tmp u)]) ?_ ((sameE_any h1 h2).mono ?_)
  · have c3 : a.eval (.func 11) = .func (.func 11) #[] #[] := rfl
    unfold execOp
    simp only [hop, resolve, List.map_toArray, List.map_cons, List.map_nil, c3, Sem.run_bind]
    simp [Deferred.ofValue, invoke]
  · rintro e w' ⟨rfl, hb⟩
    exact ⟨_, rfl, hb.bw, lay hd hk (by show Value.bool _ = _; unfold same; rw [decide_eq_true rfl])⟩
theorem k_cut {s : Nat} {g h : List En} (ho : ops[i]? = some o) (hw : Region.wanted o (yielded ops a.tmps) = true) (hop : o.op = .slice 28 (.tmp s) (some (.const (.int .i64 4))) none none) (hd : o.dst = some d)
    (h1 : Holdk w (a.eval (.tmp s)) (.R6 g)) (hg : g.length = 6) (hgh : g.drop 4 = h) (hk : ks.getD d .N = .R h) : Stp Tryd.prog ops Q (Ik ks) i o a w := by
  obtain ⟨⟨A, c, h1, h6, hc⟩, h2⟩ := h1
  rw [h1] at h2
  have hcut := Sl.cut (A := A) (c := c) (l := 4) (n := 6) (m := 2) (xs := g) (by rw [hg]; exact h2) (by omega) (by omega) rfl
  rw [← hg, List.take_length, hgh] at hcut
  refine stp_val ho hw (v := .slice (if c = 4 then A else A.map (·.add (4 * 3))) 2 (c - 4)) (w' := w) ?_ (Below.refl _ _) (lay hd hk hcut)
  have c1 : a.eval (.const (.int .i64 4)) = .int .i64 4 := rfl
  obtain ⟨ie, hie, _, hi3, _⟩ := info_parts infoE
  have hb1 : (Instr.sliceBound (.int .i64 (4 : Int)) 6 .sliceB).run Tryd.prog w = .ok 4 w := by have := run_sliceBound (P := Tryd.prog) w .i64 (4 : Int) 6 .sliceB (by omega) (by omega); simpa using this
  unfold execOp
  simp only [hop, Option.map_some, Option.map_none, h1, c1]
  cases A <;> simp [Instr.sliceAt, Instr.slice, run_underlying Tryd.underlying28, Instr.sliceBounds, hb1, sizeOf, typeInfo, hie, Result.andThen, hi3]
theorem k_ens1 {s1 : Nat} {x1 : En} (ho : ops[i]? = some o) (hw : Region.wanted o (yielded ops a.tmps) = true) (hop : o.op = .buildSlice 28 1 #[(0, .tmp s1)]) (hd : o.dst = some d)
    (h1 : Holdk w (a.eval (.tmp s1)) (.E x1)) (hk : ks.getD d .N = .R [x1]) : Stp Tryd.prog ops Q (Ik ks) i o a w := by
  obtain ⟨u1, e1, r1, t1, n1⟩ := h1
  obtain ⟨A1, m1, c1, rfl, _, _, _⟩ := r1.form'
  have hb : Bw w (w.alloc (.cells #[.slice A1 m1 c1, .string x1.2.1, .int .i64 x1.2.2] 37)) := bw_refl_al _ _
  refine stp_val ho hw (v := .slice (some ⟨w.heap.size, 0, none⟩) 1 1) (w' := w.alloc (.cells #[.slice A1 m1 c1, .string x1.2.1, .int .i64 x1.2.2] 37)) ?_ hb (lay hd hk (sl_en (xs := [x1]) (us := [.slice A1 m1 c1, .string x1.2.1, .int .i64 x1.2.2]) (at_new rfl) (by simp) (by simp [maxLen]) fun j x hj => ?_))
  · unfold execOp; simp only [hop, List.map_toArray, List.map_cons, List.map_nil, e1]; simp [go_sem, Tryd.sizeOf37, Tryd.zeroValue37]
  · match j, hj with
    | 0, hj => injection hj with hj; subst hj; exact ⟨_, rfl, rfl, rfl, r1.after hb, t1, n1⟩
theorem k_ens2 {s1 s2 : Nat} {x1 x2 : En} (ho : ops[i]? = some o) (hw : Region.wanted o (yielded ops a.tmps) = true) (hop : o.op = .buildSlice 28 2 #[(0, .tmp s1), (1, .tmp s2)]) (hd : o.dst = some d)
    (h1 : Holdk w (a.eval (.tmp s1)) (.E x1)) (h2 : Holdk w (a.eval (.tmp s2)) (.E x2)) (hk : ks.getD d .N = .R [x1, x2]) : Stp Tryd.prog ops Q (Ik ks) i o a w := by
  obtain ⟨u1, e1, r1, t1, n1⟩ := h1
  obtain ⟨A1, m1, c1, rfl, _, _, _⟩ := r1.form'
  obtain ⟨u2, e2, r2, t2, n2⟩ := h2
  obtain ⟨A2, m2, c2, rfl, _, _, _⟩ := r2.form'
  have hb : Bw w (w.alloc (.cells #[.slice A1 m1 c1, .string x1.2.1, .int .i64 x1.2.2, .slice A2 m2 c2, .string x2.2.1, .int .i64 x2.2.2] 37)) := bw_refl_al _ _
  refine stp_val ho hw (v := .slice (some ⟨w.heap.size, 0, none⟩) 2 2) (w' := w.alloc (.cells #[.slice A1 m1 c1, .string x1.2.1, .int .i64 x1.2.2, .slice A2 m2 c2, .string x2.2.1, .int .i64 x2.2.2] 37)) ?_ hb (lay hd hk (sl_en (xs := [x1, x2]) (us := [.slice A1 m1 c1, .string x1.2.1, .int .i64 x1.2.2, .slice A2 m2 c2, .string x2.2.1, .int .i64 x2.2.2]) (at_new rfl) (by simp) (by simp [maxLen]) fun j x hj => ?_))
  · unfold execOp; simp only [hop, List.map_toArray, List.map_cons, List.map_nil, e1, e2]; simp [go_sem, Tryd.sizeOf37, Tryd.zeroValue37]
  · match j, hj with
    | 0, hj => injection hj with hj; subst hj; exact ⟨_, rfl, rfl, rfl, r1.after hb, t1, n1⟩
    | 1, hj => injection hj with hj; subst hj; exact ⟨_, rfl, rfl, rfl, r2.after hb, t2, n2⟩
theorem k_ens4 {s1 s2 s3 s4 : Nat} {x1 x2 x3 x4 : En} (ho : ops[i]? = some o) (hw : Region.wanted o (yielded ops a.tmps) = true) (hop : o.op = .buildSlice 28 4 #[(0, .tmp s1), (1, .tmp s2), (2, .tmp s3), (3, .tmp s4)]) (hd : o.dst = some d)
    (h1 : Holdk w (a.eval (.tmp s1)) (.E x1)) (h2 : Holdk w (a.eval (.tmp s2)) (.E x2)) (h3 : Holdk w (a.eval (.tmp s3)) (.E x3)) (h4 : Holdk w (a.eval (.tmp s4)) (.E x4)) (hk : ks.getD d .N = .R [x1, x2, x3, x4]) : Stp Tryd.prog ops Q (Ik ks) i o a w := by
  obtain ⟨u1, e1, r1, t1, n1⟩ := h1
  obtain ⟨A1, m1, c1, rfl, _, _, _⟩ := r1.form'
  obtain ⟨u2, e2, r2, t2, n2⟩ := h2
  obtain ⟨A2, m2, c2, rfl, _, _, _⟩ := r2.form'
  obtain ⟨u3, e3, r3, t3, n3⟩ := h3
  obtain ⟨A3, m3, c3, rfl, _, _, _⟩ := r3.form'
  obtain ⟨u4, e4, r4, t4, n4⟩ := h4
  obtain ⟨A4, m4, c4, rfl, _, _, _⟩ := r4.form'
  obtain ⟨us, hus⟩ : ∃ us : List Value, us = [.slice A1 m1 c1, .string x1.2.1, .int .i64 x1.2.2, .slice A2 m2 c2, .string x2.2.1, .int .i64 x2.2.2, .slice A3 m3 c3, .string x3.2.1, .int .i64 x3.2.2, .slice A4 m4 c4, .string x4.2.1, .int .i64 x4.2.2] := ⟨_, rfl⟩
  have hb : Bw w (w.alloc (.cells us.toArray 37)) := bw_refl_al _ _
  refine stp_val ho hw (v := .slice (some ⟨w.heap.size, 0, none⟩) 4 4) (w' := w.alloc (.cells us.toArray 37)) ?_ hb (lay hd hk (sl_en (xs := [x1, x2, x3, x4]) (us := us) (at_new rfl) (by simp) (by simp [maxLen]) fun j x hj => ?_))
  · subst hus
    unfold execOp; simp only [hop, List.map_toArray, List.map_cons, List.map_nil, e1, e2, e3, e4]; simp [go_sem, Tryd.sizeOf37, Tryd.zeroValue37]
  · subst hus
    match j, hj with
    | 0, hj => injection hj with hj; subst hj; exact ⟨_, rfl, rfl, rfl, r1.after hb, t1, n1⟩
    | 1, hj => injection hj with hj; subst hj; exact ⟨_, rfl, rfl, rfl, r2.after hb, t2, n2⟩
    | 2, hj => injection hj with hj; subst hj; exact ⟨_, rfl, rfl, rfl, r3.after hb, t3, n3⟩
    | 3, hj => injection hj with hj; subst hj; exact ⟨_, rfl, rfl, rfl, r4.after hb, t4, n4⟩
end

/-- What each slot of awake holds. -/
def kindsA : List Kd := [.B, .R oneL, .N, .R6 twoL, .N, .R [([2], sV, 2), ([2], sN, 1)], .C 0, .R [([3, 2], sV, 2)], .C 0, .R [([], sV, 2), ([], sN, 1)], .C 0, .N, .C 4, .S sV, .N, .N, .N, .N, .N, .N, .N, .N, .N, .N, .N, .N, .N, .N, .N, .N, .N, .N, .N, .N, .N, .N, .N, .N, .N, .N, .N, .N, .N, .N, .N, .N, .N, .N, .N, .N, .N, .N, .N, .N, .N, .N, .N, .N, .N, .N, .N, .R oneL, .E ([], sN, 1), .E ([], sV, 2), .X [2], .E ([2], sN, 1), .X [2], .E ([2], sV, 2), .R [([], sN, 1), ([], sV, 2), ([2], sN, 1), ([2], sV, 2)], .B, .B, .R6 twoL, .R [([1, 2], sN, 1), ([3, 2], sV, 2)], .X [1, 2], .E ([1, 2], sN, 1), .X [3, 2], .E ([3, 2], sV, 2), .R [([1, 2], sN, 1), ([3, 2], sV, 2)], .B, .B, .B, .C 0, .B, .B, .B, .R [([2], sV, 2), ([2], sN, 1)], .X [2], .E ([2], sV, 2), .X [2], .E ([2], sN, 1), .R [([2], sV, 2), ([2], sN, 1)], .B, .B, .B, .C 0, .B, .B, .B, .R [([3, 2], sV, 2)], .X [3, 2], .E ([3, 2], sV, 2), .R [([3, 2], sV, 2)], .B, .B, .B, .C 0, .B, .B, .B, .R [([], sV, 2), ([], sN, 1)], .E ([], sV, 2), .E ([], sN, 1), .R [([], sV, 2), ([], sN, 1)], .B, .B, .B, .C 4, .B, .B, .B, .S sV, .C 1, .B, .B, .B, .S sV, .P sV, .T sV, .B, .B]
def oA0 : Oper := { dst := some 61, op := Go.Op.move (Go.Operand.tmp 1), type := 28, pos := "law.go:31", after := #[], guard := none }
def oA1 : Oper := { dst := some 62, op := Go.Op.call { callee := Go.Callee.value (Go.Operand.func 14), args := #[Go.Operand.const (Go.Value.string { data := #[78] }), Go.Operand.const (Go.Value.int Go.IntKind.i64 1), Go.Operand.const (Go.Value.slice none 0 0)], argTypes := #[9, 3, 25] }, type := 37, pos := "law.go:31", after := #[], guard := none }
def oA2 : Oper := { dst := some 63, op := Go.Op.call { callee := Go.Callee.value (Go.Operand.func 14), args := #[Go.Operand.const (Go.Value.string { data := #[86] }), Go.Operand.const (Go.Value.int Go.IntKind.i64 2), Go.Operand.const (Go.Value.slice none 0 0)], argTypes := #[9, 3, 25] }, type := 37, pos := "law.go:31", after := #[{ on := 1, ground := Go.Ground.chain }], guard := none }
def oA3 : Oper := { dst := some 64, op := Go.Op.buildSlice 25 1 #[(0, Go.Operand.const (Go.Value.int Go.IntKind.i64 2))], type := 25, pos := "law.go:31", after := #[], guard := none }
def oA4 : Oper := { dst := some 65, op := Go.Op.call { callee := Go.Callee.value (Go.Operand.func 14), args := #[Go.Operand.const (Go.Value.string { data := #[78] }), Go.Operand.const (Go.Value.int Go.IntKind.i64 1), Go.Operand.tmp 64], argTypes := #[9, 3, 25] }, type := 37, pos := "law.go:31", after := #[{ on := 3, ground := Go.Ground.data }, { on := 2, ground := Go.Ground.chain }], guard := none }
def oA5 : Oper := { dst := some 66, op := Go.Op.buildSlice 25 1 #[(0, Go.Operand.const (Go.Value.int Go.IntKind.i64 2))], type := 25, pos := "law.go:31", after := #[], guard := none }
def oA6 : Oper := { dst := some 67, op := Go.Op.call { callee := Go.Callee.value (Go.Operand.func 14), args := #[Go.Operand.const (Go.Value.string { data := #[86] }), Go.Operand.const (Go.Value.int Go.IntKind.i64 2), Go.Operand.tmp 66], argTypes := #[9, 3, 25] }, type := 37, pos := "law.go:31", after := #[{ on := 5, ground := Go.Ground.data }, { on := 4, ground := Go.Ground.chain }], guard := none }
def oA7 : Oper := { dst := some 68, op := Go.Op.buildSlice 28 4 #[(0, Go.Operand.tmp 62), (1, Go.Operand.tmp 63), (2, Go.Operand.tmp 65), (3, Go.Operand.tmp 67)], type := 28, pos := "law.go:31", after := #[{ on := 1, ground := Go.Ground.data }, { on := 2, ground := Go.Ground.data }, { on := 4, ground := Go.Ground.data }, { on := 6, ground := Go.Ground.data }], guard := none }
def oA8 : Oper := { dst := some 69, op := Go.Op.call { callee := Go.Callee.value (Go.Operand.func 11), args := #[Go.Operand.tmp 61, Go.Operand.tmp 68], argTypes := #[28, 28] }, type := 4, pos := "law.go:31", after := #[{ on := 0, ground := Go.Ground.data }, { on := 7, ground := Go.Ground.data }, { on := 6, ground := Go.Ground.chain }], guard := none }
def oA9 : Oper := { dst := some 70, op := Go.Op.move (Go.Operand.tmp 69), type := 4, pos := "law.go:31", after := #[{ on := 8, ground := Go.Ground.data }, { on := 8, ground := Go.Ground.chain }], guard := none }
def oA10 : Oper := { dst := some 71, op := Go.Op.move (Go.Operand.tmp 3), type := 28, pos := "law.go:31", after := #[{ on := 9, ground := Go.Ground.guard }], guard := some (9, true) }
def oA11 : Oper := { dst := some 72, op := Go.Op.slice 28 (Go.Operand.tmp 71) (some (Go.Operand.const (Go.Value.int Go.IntKind.i64 4))) none none, type := 28, pos := "law.go:31", after := #[{ on := 10, ground := Go.Ground.data }, { on := 9, ground := Go.Ground.guard }], guard := some (9, true) }
def oA12 : Oper := { dst := some 73, op := Go.Op.buildSlice 25 2 #[(0, Go.Operand.const (Go.Value.int Go.IntKind.i64 1)), (1, Go.Operand.const (Go.Value.int Go.IntKind.i64 2))], type := 25, pos := "law.go:31", after := #[{ on := 9, ground := Go.Ground.guard }], guard := some (9, true) }
def oA13 : Oper := { dst := some 74, op := Go.Op.call { callee := Go.Callee.value (Go.Operand.func 14), args := #[Go.Operand.const (Go.Value.string { data := #[78] }), Go.Operand.const (Go.Value.int Go.IntKind.i64 1), Go.Operand.tmp 73], argTypes := #[9, 3, 25] }, type := 37, pos := "law.go:31", after := #[{ on := 12, ground := Go.Ground.data }, { on := 9, ground := Go.Ground.chain }, { on := 9, ground := Go.Ground.guard }], guard := some (9, true) }
def oA14 : Oper := { dst := some 75, op := Go.Op.buildSlice 25 2 #[(0, Go.Operand.const (Go.Value.int Go.IntKind.i64 3)), (1, Go.Operand.const (Go.Value.int Go.IntKind.i64 2))], type := 25, pos := "law.go:31", after := #[{ on := 9, ground := Go.Ground.guard }], guard := some (9, true) }
def oA15 : Oper := { dst := some 76, op := Go.Op.call { callee := Go.Callee.value (Go.Operand.func 14), args := #[Go.Operand.const (Go.Value.string { data := #[86] }), Go.Operand.const (Go.Value.int Go.IntKind.i64 2), Go.Operand.tmp 75], argTypes := #[9, 3, 25] }, type := 37, pos := "law.go:31", after := #[{ on := 14, ground := Go.Ground.data }, { on := 13, ground := Go.Ground.chain }, { on := 9, ground := Go.Ground.guard }], guard := some (9, true) }
def oA16 : Oper := { dst := some 77, op := Go.Op.buildSlice 28 2 #[(0, Go.Operand.tmp 74), (1, Go.Operand.tmp 76)], type := 28, pos := "law.go:31", after := #[{ on := 13, ground := Go.Ground.data }, { on := 15, ground := Go.Ground.data }, { on := 9, ground := Go.Ground.guard }], guard := some (9, true) }
def oA17 : Oper := { dst := some 78, op := Go.Op.call { callee := Go.Callee.value (Go.Operand.func 11), args := #[Go.Operand.tmp 72, Go.Operand.tmp 77], argTypes := #[28, 28] }, type := 4, pos := "law.go:31", after := #[{ on := 11, ground := Go.Ground.data }, { on := 16, ground := Go.Ground.data }, { on := 15, ground := Go.Ground.chain }, { on := 9, ground := Go.Ground.guard }], guard := some (9, true) }
def oA18 : Oper := { dst := some 79, op := Go.Op.pick (Go.Operand.tmp 70) (Go.Operand.tmp 78) (Go.Operand.const (Go.Value.bool false)), type := 4, pos := "law.go:31", after := #[{ on := 9, ground := Go.Ground.data }, { on := 17, ground := Go.Ground.data }], guard := none }
def oA19 : Oper := { dst := some 80, op := Go.Op.move (Go.Operand.tmp 79), type := 4, pos := "law.go:31", after := #[{ on := 18, ground := Go.Ground.data }, { on := 17, ground := Go.Ground.chain }], guard := none }
def oA20 : Oper := { dst := some 81, op := Go.Op.move (Go.Operand.tmp 6), type := 29, pos := "law.go:31", after := #[{ on := 19, ground := Go.Ground.guard }], guard := some (19, true) }
def oA21 : Oper := { dst := some 82, op := Go.Op.binOp Go.BinOp.eql 29 (Go.Operand.tmp 81) (Go.Operand.const (Go.Value.int Go.IntKind.i64 0)) 29, type := 4, pos := "law.go:31", after := #[{ on := 20, ground := Go.Ground.data }, { on := 19, ground := Go.Ground.guard }], guard := some (19, true) }
def oA22 : Oper := { dst := some 83, op := Go.Op.pick (Go.Operand.tmp 80) (Go.Operand.tmp 82) (Go.Operand.const (Go.Value.bool false)), type := 4, pos := "law.go:31", after := #[{ on := 19, ground := Go.Ground.data }, { on := 21, ground := Go.Ground.data }], guard := none }
def oA23 : Oper := { dst := some 84, op := Go.Op.move (Go.Operand.tmp 83), type := 4, pos := "law.go:31", after := #[{ on := 22, ground := Go.Ground.data }, { on := 19, ground := Go.Ground.chain }], guard := none }
def oA24 : Oper := { dst := some 85, op := Go.Op.move (Go.Operand.tmp 5), type := 28, pos := "law.go:31", after := #[{ on := 23, ground := Go.Ground.guard }], guard := some (23, true) }
def oA25 : Oper := { dst := some 86, op := Go.Op.buildSlice 25 1 #[(0, Go.Operand.const (Go.Value.int Go.IntKind.i64 2))], type := 25, pos := "law.go:31", after := #[{ on := 23, ground := Go.Ground.guard }], guard := some (23, true) }
def oA26 : Oper := { dst := some 87, op := Go.Op.call { callee := Go.Callee.value (Go.Operand.func 14), args := #[Go.Operand.const (Go.Value.string { data := #[86] }), Go.Operand.const (Go.Value.int Go.IntKind.i64 2), Go.Operand.tmp 86], argTypes := #[9, 3, 25] }, type := 37, pos := "law.go:31", after := #[{ on := 25, ground := Go.Ground.data }, { on := 23, ground := Go.Ground.chain }, { on := 23, ground := Go.Ground.guard }], guard := some (23, true) }
def oA27 : Oper := { dst := some 88, op := Go.Op.buildSlice 25 1 #[(0, Go.Operand.const (Go.Value.int Go.IntKind.i64 2))], type := 25, pos := "law.go:31", after := #[{ on := 23, ground := Go.Ground.guard }], guard := some (23, true) }
def oA28 : Oper := { dst := some 89, op := Go.Op.call { callee := Go.Callee.value (Go.Operand.func 14), args := #[Go.Operand.const (Go.Value.string { data := #[78] }), Go.Operand.const (Go.Value.int Go.IntKind.i64 1), Go.Operand.tmp 88], argTypes := #[9, 3, 25] }, type := 37, pos := "law.go:31", after := #[{ on := 27, ground := Go.Ground.data }, { on := 26, ground := Go.Ground.chain }, { on := 23, ground := Go.Ground.guard }], guard := some (23, true) }
def oA29 : Oper := { dst := some 90, op := Go.Op.buildSlice 28 2 #[(0, Go.Operand.tmp 87), (1, Go.Operand.tmp 89)], type := 28, pos := "law.go:31", after := #[{ on := 26, ground := Go.Ground.data }, { on := 28, ground := Go.Ground.data }, { on := 23, ground := Go.Ground.guard }], guard := some (23, true) }
def oA30 : Oper := { dst := some 91, op := Go.Op.call { callee := Go.Callee.value (Go.Operand.func 11), args := #[Go.Operand.tmp 85, Go.Operand.tmp 90], argTypes := #[28, 28] }, type := 4, pos := "law.go:31", after := #[{ on := 24, ground := Go.Ground.data }, { on := 29, ground := Go.Ground.data }, { on := 28, ground := Go.Ground.chain }, { on := 23, ground := Go.Ground.guard }], guard := some (23, true) }
def oA31 : Oper := { dst := some 92, op := Go.Op.pick (Go.Operand.tmp 84) (Go.Operand.tmp 91) (Go.Operand.const (Go.Value.bool false)), type := 4, pos := "law.go:31", after := #[{ on := 23, ground := Go.Ground.data }, { on := 30, ground := Go.Ground.data }], guard := none }
def oA32 : Oper := { dst := some 93, op := Go.Op.move (Go.Operand.tmp 92), type := 4, pos := "law.go:31", after := #[{ on := 31, ground := Go.Ground.data }, { on := 30, ground := Go.Ground.chain }], guard := none }
def oA33 : Oper := { dst := some 94, op := Go.Op.move (Go.Operand.tmp 8), type := 29, pos := "law.go:31", after := #[{ on := 32, ground := Go.Ground.guard }], guard := some (32, true) }
def oA34 : Oper := { dst := some 95, op := Go.Op.binOp Go.BinOp.eql 29 (Go.Operand.tmp 94) (Go.Operand.const (Go.Value.int Go.IntKind.i64 0)) 29, type := 4, pos := "law.go:31", after := #[{ on := 33, ground := Go.Ground.data }, { on := 32, ground := Go.Ground.guard }], guard := some (32, true) }
def oA35 : Oper := { dst := some 96, op := Go.Op.pick (Go.Operand.tmp 93) (Go.Operand.tmp 95) (Go.Operand.const (Go.Value.bool false)), type := 4, pos := "law.go:31", after := #[{ on := 32, ground := Go.Ground.data }, { on := 34, ground := Go.Ground.data }], guard := none }
def oA36 : Oper := { dst := some 97, op := Go.Op.move (Go.Operand.tmp 96), type := 4, pos := "law.go:31", after := #[{ on := 35, ground := Go.Ground.data }, { on := 32, ground := Go.Ground.chain }], guard := none }
def oA37 : Oper := { dst := some 98, op := Go.Op.move (Go.Operand.tmp 7), type := 28, pos := "law.go:31", after := #[{ on := 36, ground := Go.Ground.guard }], guard := some (36, true) }
def oA38 : Oper := { dst := some 99, op := Go.Op.buildSlice 25 2 #[(0, Go.Operand.const (Go.Value.int Go.IntKind.i64 3)), (1, Go.Operand.const (Go.Value.int Go.IntKind.i64 2))], type := 25, pos := "law.go:31", after := #[{ on := 36, ground := Go.Ground.guard }], guard := some (36, true) }
def oA39 : Oper := { dst := some 100, op := Go.Op.call { callee := Go.Callee.value (Go.Operand.func 14), args := #[Go.Operand.const (Go.Value.string { data := #[86] }), Go.Operand.const (Go.Value.int Go.IntKind.i64 2), Go.Operand.tmp 99], argTypes := #[9, 3, 25] }, type := 37, pos := "law.go:31", after := #[{ on := 38, ground := Go.Ground.data }, { on := 36, ground := Go.Ground.chain }, { on := 36, ground := Go.Ground.guard }], guard := some (36, true) }
def oA40 : Oper := { dst := some 101, op := Go.Op.buildSlice 28 1 #[(0, Go.Operand.tmp 100)], type := 28, pos := "law.go:31", after := #[{ on := 39, ground := Go.Ground.data }, { on := 36, ground := Go.Ground.guard }], guard := some (36, true) }
def oA41 : Oper := { dst := some 102, op := Go.Op.call { callee := Go.Callee.value (Go.Operand.func 11), args := #[Go.Operand.tmp 98, Go.Operand.tmp 101], argTypes := #[28, 28] }, type := 4, pos := "law.go:31", after := #[{ on := 37, ground := Go.Ground.data }, { on := 40, ground := Go.Ground.data }, { on := 39, ground := Go.Ground.chain }, { on := 36, ground := Go.Ground.guard }], guard := some (36, true) }
def oA42 : Oper := { dst := some 103, op := Go.Op.pick (Go.Operand.tmp 97) (Go.Operand.tmp 102) (Go.Operand.const (Go.Value.bool false)), type := 4, pos := "law.go:31", after := #[{ on := 36, ground := Go.Ground.data }, { on := 41, ground := Go.Ground.data }], guard := none }
def oA43 : Oper := { dst := some 104, op := Go.Op.move (Go.Operand.tmp 103), type := 4, pos := "law.go:31", after := #[{ on := 42, ground := Go.Ground.data }, { on := 41, ground := Go.Ground.chain }], guard := none }
def oA44 : Oper := { dst := some 105, op := Go.Op.move (Go.Operand.tmp 10), type := 29, pos := "law.go:31", after := #[{ on := 43, ground := Go.Ground.guard }], guard := some (43, true) }
def oA45 : Oper := { dst := some 106, op := Go.Op.binOp Go.BinOp.eql 29 (Go.Operand.tmp 105) (Go.Operand.const (Go.Value.int Go.IntKind.i64 0)) 29, type := 4, pos := "law.go:31", after := #[{ on := 44, ground := Go.Ground.data }, { on := 43, ground := Go.Ground.guard }], guard := some (43, true) }
def oA46 : Oper := { dst := some 107, op := Go.Op.pick (Go.Operand.tmp 104) (Go.Operand.tmp 106) (Go.Operand.const (Go.Value.bool false)), type := 4, pos := "law.go:31", after := #[{ on := 43, ground := Go.Ground.data }, { on := 45, ground := Go.Ground.data }], guard := none }
def oA47 : Oper := { dst := some 108, op := Go.Op.move (Go.Operand.tmp 107), type := 4, pos := "law.go:31", after := #[{ on := 46, ground := Go.Ground.data }, { on := 43, ground := Go.Ground.chain }], guard := none }
def oA48 : Oper := { dst := some 109, op := Go.Op.move (Go.Operand.tmp 9), type := 28, pos := "law.go:31", after := #[{ on := 47, ground := Go.Ground.guard }], guard := some (47, true) }
def oA49 : Oper := { dst := some 110, op := Go.Op.call { callee := Go.Callee.value (Go.Operand.func 14), args := #[Go.Operand.const (Go.Value.string { data := #[86] }), Go.Operand.const (Go.Value.int Go.IntKind.i64 2), Go.Operand.const (Go.Value.slice none 0 0)], argTypes := #[9, 3, 25] }, type := 37, pos := "law.go:31", after := #[{ on := 47, ground := Go.Ground.chain }, { on := 47, ground := Go.Ground.guard }], guard := some (47, true) }
def oA50 : Oper := { dst := some 111, op := Go.Op.call { callee := Go.Callee.value (Go.Operand.func 14), args := #[Go.Operand.const (Go.Value.string { data := #[78] }), Go.Operand.const (Go.Value.int Go.IntKind.i64 1), Go.Operand.const (Go.Value.slice none 0 0)], argTypes := #[9, 3, 25] }, type := 37, pos := "law.go:31", after := #[{ on := 49, ground := Go.Ground.chain }, { on := 47, ground := Go.Ground.guard }], guard := some (47, true) }
def oA51 : Oper := { dst := some 112, op := Go.Op.buildSlice 28 2 #[(0, Go.Operand.tmp 110), (1, Go.Operand.tmp 111)], type := 28, pos := "law.go:31", after := #[{ on := 49, ground := Go.Ground.data }, { on := 50, ground := Go.Ground.data }, { on := 47, ground := Go.Ground.guard }], guard := some (47, true) }
def oA52 : Oper := { dst := some 113, op := Go.Op.call { callee := Go.Callee.value (Go.Operand.func 11), args := #[Go.Operand.tmp 109, Go.Operand.tmp 112], argTypes := #[28, 28] }, type := 4, pos := "law.go:31", after := #[{ on := 48, ground := Go.Ground.data }, { on := 51, ground := Go.Ground.data }, { on := 50, ground := Go.Ground.chain }, { on := 47, ground := Go.Ground.guard }], guard := some (47, true) }
def oA53 : Oper := { dst := some 114, op := Go.Op.pick (Go.Operand.tmp 108) (Go.Operand.tmp 113) (Go.Operand.const (Go.Value.bool false)), type := 4, pos := "law.go:31", after := #[{ on := 47, ground := Go.Ground.data }, { on := 52, ground := Go.Ground.data }], guard := none }
def oA54 : Oper := { dst := some 115, op := Go.Op.move (Go.Operand.tmp 114), type := 4, pos := "law.go:31", after := #[{ on := 53, ground := Go.Ground.data }, { on := 52, ground := Go.Ground.chain }], guard := none }
def oA55 : Oper := { dst := some 116, op := Go.Op.move (Go.Operand.tmp 12), type := 29, pos := "law.go:31", after := #[{ on := 54, ground := Go.Ground.guard }], guard := some (54, true) }
def oA56 : Oper := { dst := some 117, op := Go.Op.binOp Go.BinOp.eql 29 (Go.Operand.tmp 116) (Go.Operand.const (Go.Value.int Go.IntKind.i64 4)) 29, type := 4, pos := "law.go:31", after := #[{ on := 55, ground := Go.Ground.data }, { on := 54, ground := Go.Ground.guard }], guard := some (54, true) }
def oA57 : Oper := { dst := some 118, op := Go.Op.pick (Go.Operand.tmp 115) (Go.Operand.tmp 117) (Go.Operand.const (Go.Value.bool false)), type := 4, pos := "law.go:31", after := #[{ on := 54, ground := Go.Ground.data }, { on := 56, ground := Go.Ground.data }], guard := none }
def oA58 : Oper := { dst := some 119, op := Go.Op.move (Go.Operand.tmp 118), type := 4, pos := "law.go:31", after := #[{ on := 57, ground := Go.Ground.data }, { on := 54, ground := Go.Ground.chain }], guard := none }
def oA59 : Oper := { dst := some 120, op := Go.Op.move (Go.Operand.tmp 13), type := 39, pos := "law.go:31", after := #[{ on := 58, ground := Go.Ground.guard }], guard := some (58, true) }
def oA60 : Oper := { dst := some 121, op := Go.Op.call { callee := Go.Callee.builtin Go.Builtin.len, args := #[Go.Operand.tmp 120], argTypes := #[39] }, type := 3, pos := "law.go:31", after := #[{ on := 59, ground := Go.Ground.data }, { on := 58, ground := Go.Ground.guard }], guard := some (58, true) }
def oA61 : Oper := { dst := some 122, op := Go.Op.binOp Go.BinOp.eql 3 (Go.Operand.tmp 121) (Go.Operand.const (Go.Value.int Go.IntKind.i64 1)) 3, type := 4, pos := "law.go:31", after := #[{ on := 60, ground := Go.Ground.data }, { on := 58, ground := Go.Ground.guard }], guard := some (58, true) }
def oA62 : Oper := { dst := some 123, op := Go.Op.pick (Go.Operand.tmp 119) (Go.Operand.tmp 122) (Go.Operand.const (Go.Value.bool false)), type := 4, pos := "law.go:31", after := #[{ on := 58, ground := Go.Ground.data }, { on := 61, ground := Go.Ground.data }], guard := none }
def oA63 : Oper := { dst := some 124, op := Go.Op.move (Go.Operand.tmp 123), type := 4, pos := "law.go:31", after := #[{ on := 62, ground := Go.Ground.data }, { on := 58, ground := Go.Ground.chain }], guard := none }
def oA64 : Oper := { dst := some 125, op := Go.Op.move (Go.Operand.tmp 13), type := 39, pos := "law.go:31", after := #[{ on := 63, ground := Go.Ground.guard }], guard := some (63, true) }
def oA65 : Oper := { dst := some 126, op := Go.Op.indexAddr 39 (Go.Operand.tmp 125) (Go.Operand.const (Go.Value.int Go.IntKind.i64 0)), type := 0, pos := "law.go:31", after := #[{ on := 64, ground := Go.Ground.data }, { on := 63, ground := Go.Ground.guard }], guard := some (63, true) }
def oA66 : Oper := { dst := some 127, op := Go.Op.load 9 (Go.Operand.tmp 126), type := 9, pos := "law.go:31", after := #[{ on := 65, ground := Go.Ground.data }, { on := 63, ground := Go.Ground.guard }], guard := some (63, true) }
def oA67 : Oper := { dst := some 128, op := Go.Op.binOp Go.BinOp.eql 9 (Go.Operand.tmp 127) (Go.Operand.const (Go.Value.string { data := #[86] })) 9, type := 4, pos := "law.go:31", after := #[{ on := 66, ground := Go.Ground.data }, { on := 63, ground := Go.Ground.guard }], guard := some (63, true) }
def oA68 : Oper := { dst := some 129, op := Go.Op.pick (Go.Operand.tmp 124) (Go.Operand.tmp 128) (Go.Operand.const (Go.Value.bool false)), type := 4, pos := "law.go:31", after := #[{ on := 63, ground := Go.Ground.data }, { on := 67, ground := Go.Ground.data }], guard := none }
def oA69 : Oper := { dst := some 0, op := Go.Op.assign (Go.Operand.tmp 129), type := 4, pos := "law.go:31", after := ([{ on := 68, ground := Go.Ground.data }, { on := 63, ground := Go.Ground.chain }, { on := 0, ground := Go.Ground.phase }, { on := 1, ground := Go.Ground.phase }, { on := 2, ground := Go.Ground.phase }, { on := 3, ground := Go.Ground.phase }, { on := 4, ground := Go.Ground.phase }, { on := 5, ground := Go.Ground.phase }, { on := 6, ground := Go.Ground.phase }, { on := 7, ground := Go.Ground.phase }, { on := 8, ground := Go.Ground.phase }, { on := 9, ground := Go.Ground.phase }, { on := 10, ground := Go.Ground.phase }, { on := 11, ground := Go.Ground.phase }, { on := 12, ground := Go.Ground.phase }, { on := 13, ground := Go.Ground.phase }, { on := 14, ground := Go.Ground.phase }, { on := 15, ground := Go.Ground.phase }, { on := 16, ground := Go.Ground.phase }, { on := 17, ground := Go.Ground.phase }, { on := 18, ground := Go.Ground.phase }, { on := 19, ground := Go.Ground.phase }, { on := 20, ground := Go.Ground.phase }, { on := 21, ground := Go.Ground.phase }, { on := 22, ground := Go.Ground.phase }, { on := 23, ground := Go.Ground.phase }, { on := 24, ground := Go.Ground.phase }, { on := 25, ground := Go.Ground.phase }, { on := 26, ground := Go.Ground.phase }, { on := 27, ground := Go.Ground.phase }, { on := 28, ground := Go.Ground.phase }, { on := 29, ground := Go.Ground.phase }, { on := 30, ground := Go.Ground.phase }, { on := 31, ground := Go.Ground.phase }, { on := 32, ground := Go.Ground.phase }].append [{ on := 33, ground := Go.Ground.phase }, { on := 34, ground := Go.Ground.phase }, { on := 35, ground := Go.Ground.phase }, { on := 36, ground := Go.Ground.phase }, { on := 37, ground := Go.Ground.phase }, { on := 38, ground := Go.Ground.phase }, { on := 39, ground := Go.Ground.phase }, { on := 40, ground := Go.Ground.phase }, { on := 41, ground := Go.Ground.phase }, { on := 42, ground := Go.Ground.phase }, { on := 43, ground := Go.Ground.phase }, { on := 44, ground := Go.Ground.phase }, { on := 45, ground := Go.Ground.phase }, { on := 46, ground := Go.Ground.phase }, { on := 47, ground := Go.Ground.phase }, { on := 48, ground := Go.Ground.phase }, { on := 49, ground := Go.Ground.phase }, { on := 50, ground := Go.Ground.phase }, { on := 51, ground := Go.Ground.phase }, { on := 52, ground := Go.Ground.phase }, { on := 53, ground := Go.Ground.phase }, { on := 54, ground := Go.Ground.phase }, { on := 55, ground := Go.Ground.phase }, { on := 56, ground := Go.Ground.phase }, { on := 57, ground := Go.Ground.phase }, { on := 58, ground := Go.Ground.phase }, { on := 59, ground := Go.Ground.phase }, { on := 60, ground := Go.Ground.phase }, { on := 61, ground := Go.Ground.phase }, { on := 62, ground := Go.Ground.phase }, { on := 63, ground := Go.Ground.phase }, { on := 64, ground := Go.Ground.phase }, { on := 65, ground := Go.Ground.phase }, { on := 66, ground := Go.Ground.phase }, { on := 67, ground := Go.Ground.phase }, { on := 68, ground := Go.Ground.phase }]).toArray, guard := none }
def opsA : Array Oper := #[oA0, oA1, oA2, oA3, oA4, oA5, oA6, oA7, oA8, oA9, oA10, oA11, oA12, oA13, oA14, oA15, oA16, oA17, oA18, oA19, oA20, oA21, oA22, oA23, oA24, oA25, oA26, oA27, oA28, oA29, oA30, oA31, oA32, oA33, oA34, oA35, oA36, oA37, oA38, oA39, oA40, oA41, oA42, oA43, oA44, oA45, oA46, oA47, oA48, oA49, oA50, oA51, oA52, oA53, oA54, oA55, oA56, oA57, oA58, oA59, oA60, oA61, oA62, oA63, oA64, oA65, oA66, oA67, oA68, oA69]
def insA : List Nat := [1, 3, 5, 6, 7, 8, 9, 10, 12, 13]
theorem opsA_size : opsA.size = 70 := by kernel_rfl
theorem eA0 : opsA[0]? = some oA0 := rfl
theorem eA1 : opsA[1]? = some oA1 := rfl
theorem eA2 : opsA[2]? = some oA2 := rfl
theorem eA3 : opsA[3]? = some oA3 := rfl
theorem eA4 : opsA[4]? = some oA4 := rfl
theorem eA5 : opsA[5]? = some oA5 := rfl
theorem eA6 : opsA[6]? = some oA6 := rfl
theorem eA7 : opsA[7]? = some oA7 := rfl
theorem eA8 : opsA[8]? = some oA8 := rfl
theorem eA9 : opsA[9]? = some oA9 := rfl
theorem eA10 : opsA[10]? = some oA10 := rfl
theorem eA11 : opsA[11]? = some oA11 := rfl
theorem eA12 : opsA[12]? = some oA12 := rfl
theorem eA13 : opsA[13]? = some oA13 := rfl
theorem eA14 : opsA[14]? = some oA14 := rfl
theorem eA15 : opsA[15]? = some oA15 := rfl
theorem eA16 : opsA[16]? = some oA16 := rfl
theorem eA17 : opsA[17]? = some oA17 := rfl
theorem eA18 : opsA[18]? = some oA18 := rfl
theorem eA19 : opsA[19]? = some oA19 := rfl
theorem eA20 : opsA[20]? = some oA20 := rfl
theorem eA21 : opsA[21]? = some oA21 := rfl
theorem eA22 : opsA[22]? = some oA22 := rfl
theorem eA23 : opsA[23]? = some oA23 := rfl
theorem eA24 : opsA[24]? = some oA24 := rfl
theorem eA25 : opsA[25]? = some oA25 := rfl
theorem eA26 : opsA[26]? = some oA26 := rfl
theorem eA27 : opsA[27]? = some oA27 := rfl
theorem eA28 : opsA[28]? = some oA28 := rfl
theorem eA29 : opsA[29]? = some oA29 := rfl
theorem eA30 : opsA[30]? = some oA30 := rfl
theorem eA31 : opsA[31]? = some oA31 := rfl
theorem eA32 : opsA[32]? = some oA32 := rfl
theorem eA33 : opsA[33]? = some oA33 := rfl
theorem eA34 : opsA[34]? = some oA34 := rfl
theorem eA35 : opsA[35]? = some oA35 := rfl
theorem eA36 : opsA[36]? = some oA36 := rfl
theorem eA37 : opsA[37]? = some oA37 := rfl
theorem eA38 : opsA[38]? = some oA38 := rfl
theorem eA39 : opsA[39]? = some oA39 := rfl
theorem eA40 : opsA[40]? = some oA40 := rfl
theorem eA41 : opsA[41]? = some oA41 := rfl
theorem eA42 : opsA[42]? = some oA42 := rfl
theorem eA43 : opsA[43]? = some oA43 := rfl
theorem eA44 : opsA[44]? = some oA44 := rfl
theorem eA45 : opsA[45]? = some oA45 := rfl
theorem eA46 : opsA[46]? = some oA46 := rfl
theorem eA47 : opsA[47]? = some oA47 := rfl
theorem eA48 : opsA[48]? = some oA48 := rfl
theorem eA49 : opsA[49]? = some oA49 := rfl
theorem eA50 : opsA[50]? = some oA50 := rfl
theorem eA51 : opsA[51]? = some oA51 := rfl
theorem eA52 : opsA[52]? = some oA52 := rfl
theorem eA53 : opsA[53]? = some oA53 := rfl
theorem eA54 : opsA[54]? = some oA54 := rfl
theorem eA55 : opsA[55]? = some oA55 := rfl
theorem eA56 : opsA[56]? = some oA56 := rfl
theorem eA57 : opsA[57]? = some oA57 := rfl
theorem eA58 : opsA[58]? = some oA58 := rfl
theorem eA59 : opsA[59]? = some oA59 := rfl
theorem eA60 : opsA[60]? = some oA60 := rfl
theorem eA61 : opsA[61]? = some oA61 := rfl
theorem eA62 : opsA[62]? = some oA62 := rfl
theorem eA63 : opsA[63]? = some oA63 := rfl
theorem eA64 : opsA[64]? = some oA64 := rfl
theorem eA65 : opsA[65]? = some oA65 := rfl
theorem eA66 : opsA[66]? = some oA66 := rfl
theorem eA67 : opsA[67]? = some oA67 := rfl
theorem eA68 : opsA[68]? = some oA68 := rfl
theorem eA69 : opsA[69]? = some oA69 := rfl
section
variable {Q : Exit → Act → World → Prop} {a : Act} {w : World}
theorem sA0 {o : Oper} (ho : opsA[0]? = some o) (H : ∀ d, avail opsA insA o d = true → Ik kindsA d w (a.eval (.tmp d))) : Stp Tryd.prog opsA Q (Ik kindsA) 0 o a w := by
  obtain rfl := Option.some.inj (eA0.symm.trans ho)
  exact k_move eA0 (want_none rfl) rfl rfl (k := (.R oneL)) rfl rfl (H 1 (by kernel_rfl))
theorem sA1 {o : Oper} (ho : opsA[1]? = some o) (H : ∀ d, avail opsA insA o d = true → Ik kindsA d w (a.eval (.tmp d))) : Stp Tryd.prog opsA Q (Ik kindsA) 1 o a w := by
  obtain rfl := Option.some.inj (eA1.symm.trans ho)
  exact k_end0 eA1 (want_none rfl) (t := sN) (n := 1) rfl rfl rfl (by decide) (by simp [inI64])
theorem sA2 {o : Oper} (ho : opsA[2]? = some o) (H : ∀ d, avail opsA insA o d = true → Ik kindsA d w (a.eval (.tmp d))) : Stp Tryd.prog opsA Q (Ik kindsA) 2 o a w := by
  obtain rfl := Option.some.inj (eA2.symm.trans ho)
  exact k_end0 eA2 (want_none rfl) (t := sV) (n := 2) rfl rfl rfl (by decide) (by simp [inI64])
theorem sA3 {o : Oper} (ho : opsA[3]? = some o) (H : ∀ d, avail opsA insA o d = true → Ik kindsA d w (a.eval (.tmp d))) : Stp Tryd.prog opsA Q (Ik kindsA) 3 o a w := by
  obtain rfl := Option.some.inj (eA3.symm.trans ho)
  exact k_ints1 eA3 (want_none rfl) rfl rfl rfl (by decide)
theorem sA4 {o : Oper} (ho : opsA[4]? = some o) (H : ∀ d, avail opsA insA o d = true → Ik kindsA d w (a.eval (.tmp d))) : Stp Tryd.prog opsA Q (Ik kindsA) 4 o a w := by
  obtain rfl := Option.some.inj (eA4.symm.trans ho)
  exact k_end eA4 (want_none rfl) (x := [2]) (t := sN) (n := 1) (s := 64) rfl rfl rfl (H 64 (by kernel_rfl)) (by decide) (by simp [inI64])
theorem sA5 {o : Oper} (ho : opsA[5]? = some o) (H : ∀ d, avail opsA insA o d = true → Ik kindsA d w (a.eval (.tmp d))) : Stp Tryd.prog opsA Q (Ik kindsA) 5 o a w := by
  obtain rfl := Option.some.inj (eA5.symm.trans ho)
  exact k_ints1 eA5 (want_none rfl) rfl rfl rfl (by decide)
theorem sA6 {o : Oper} (ho : opsA[6]? = some o) (H : ∀ d, avail opsA insA o d = true → Ik kindsA d w (a.eval (.tmp d))) : Stp Tryd.prog opsA Q (Ik kindsA) 6 o a w := by
  obtain rfl := Option.some.inj (eA6.symm.trans ho)
  exact k_end eA6 (want_none rfl) (x := [2]) (t := sV) (n := 2) (s := 66) rfl rfl rfl (H 66 (by kernel_rfl)) (by decide) (by simp [inI64])
theorem sA7 {o : Oper} (ho : opsA[7]? = some o) (H : ∀ d, avail opsA insA o d = true → Ik kindsA d w (a.eval (.tmp d))) : Stp Tryd.prog opsA Q (Ik kindsA) 7 o a w := by
  obtain rfl := Option.some.inj (eA7.symm.trans ho)
  exact k_ens4 eA7 (want_none rfl) rfl rfl (s1 := 62) (s2 := 63) (s3 := 65) (s4 := 67) (H 62 (by kernel_rfl)) (H 63 (by kernel_rfl)) (H 65 (by kernel_rfl)) (H 67 (by kernel_rfl)) rfl
theorem sA8 {o : Oper} (ho : opsA[8]? = some o) (H : ∀ d, avail opsA insA o d = true → Ik kindsA d w (a.eval (.tmp d))) : Stp Tryd.prog opsA Q (Ik kindsA) 8 o a w := by
  obtain rfl := Option.some.inj (eA8.symm.trans ho)
  exact k_same eA8 (want_none rfl) (g := oneL) (h := [([], sN, 1), ([], sV, 2), ([2], sN, 1), ([2], sV, 2)]) rfl rfl (s := 61) (u := 68) (H 61 (by kernel_rfl)) (H 68 (by kernel_rfl)) rfl rfl
theorem sA9 {o : Oper} (ho : opsA[9]? = some o) (H : ∀ d, avail opsA insA o d = true → Ik kindsA d w (a.eval (.tmp d))) : Stp Tryd.prog opsA Q (Ik kindsA) 9 o a w := by
  obtain rfl := Option.some.inj (eA9.symm.trans ho)
  exact k_move eA9 (want_none rfl) rfl rfl (k := .B) rfl rfl (H 69 (by kernel_rfl))
theorem sA10 {o : Oper} (ho : opsA[10]? = some o) (H : ∀ d, avail opsA insA o d = true → Ik kindsA d w (a.eval (.tmp d))) : Stp Tryd.prog opsA Q (Ik kindsA) 10 o a w := by
  obtain rfl := Option.some.inj (eA10.symm.trans ho)
  exact k_move eA10 (want_some (j := 9) (d := 70) (b := true) rfl (by kernel_rfl) (H 70 (by kernel_rfl))) rfl rfl (k := (.R6 twoL)) rfl rfl (H 3 (by kernel_rfl))
theorem sA11 {o : Oper} (ho : opsA[11]? = some o) (H : ∀ d, avail opsA insA o d = true → Ik kindsA d w (a.eval (.tmp d))) : Stp Tryd.prog opsA Q (Ik kindsA) 11 o a w := by
  obtain rfl := Option.some.inj (eA11.symm.trans ho)
  exact k_cut eA11 (want_some (j := 9) (d := 70) (b := true) rfl (by kernel_rfl) (H 70 (by kernel_rfl))) rfl rfl (s := 71) (H 71 (by kernel_rfl)) rfl rfl rfl
theorem sA12 {o : Oper} (ho : opsA[12]? = some o) (H : ∀ d, avail opsA insA o d = true → Ik kindsA d w (a.eval (.tmp d))) : Stp Tryd.prog opsA Q (Ik kindsA) 12 o a w := by
  obtain rfl := Option.some.inj (eA12.symm.trans ho)
  exact k_ints2 eA12 (want_some (j := 9) (d := 70) (b := true) rfl (by kernel_rfl) (H 70 (by kernel_rfl))) rfl rfl rfl (by decide)
theorem sA13 {o : Oper} (ho : opsA[13]? = some o) (H : ∀ d, avail opsA insA o d = true → Ik kindsA d w (a.eval (.tmp d))) : Stp Tryd.prog opsA Q (Ik kindsA) 13 o a w := by
  obtain rfl := Option.some.inj (eA13.symm.trans ho)
  exact k_end eA13 (want_some (j := 9) (d := 70) (b := true) rfl (by kernel_rfl) (H 70 (by kernel_rfl))) (x := [1, 2]) (t := sN) (n := 1) (s := 73) rfl rfl rfl (H 73 (by kernel_rfl)) (by decide) (by simp [inI64])
theorem sA14 {o : Oper} (ho : opsA[14]? = some o) (H : ∀ d, avail opsA insA o d = true → Ik kindsA d w (a.eval (.tmp d))) : Stp Tryd.prog opsA Q (Ik kindsA) 14 o a w := by
  obtain rfl := Option.some.inj (eA14.symm.trans ho)
  exact k_ints2 eA14 (want_some (j := 9) (d := 70) (b := true) rfl (by kernel_rfl) (H 70 (by kernel_rfl))) rfl rfl rfl (by decide)
theorem sA15 {o : Oper} (ho : opsA[15]? = some o) (H : ∀ d, avail opsA insA o d = true → Ik kindsA d w (a.eval (.tmp d))) : Stp Tryd.prog opsA Q (Ik kindsA) 15 o a w := by
  obtain rfl := Option.some.inj (eA15.symm.trans ho)
  exact k_end eA15 (want_some (j := 9) (d := 70) (b := true) rfl (by kernel_rfl) (H 70 (by kernel_rfl))) (x := [3, 2]) (t := sV) (n := 2) (s := 75) rfl rfl rfl (H 75 (by kernel_rfl)) (by decide) (by simp [inI64])
theorem sA16 {o : Oper} (ho : opsA[16]? = some o) (H : ∀ d, avail opsA insA o d = true → Ik kindsA d w (a.eval (.tmp d))) : Stp Tryd.prog opsA Q (Ik kindsA) 16 o a w := by
  obtain rfl := Option.some.inj (eA16.symm.trans ho)
  exact k_ens2 eA16 (want_some (j := 9) (d := 70) (b := true) rfl (by kernel_rfl) (H 70 (by kernel_rfl))) rfl rfl (s1 := 74) (s2 := 76) (H 74 (by kernel_rfl)) (H 76 (by kernel_rfl)) rfl
theorem sA17 {o : Oper} (ho : opsA[17]? = some o) (H : ∀ d, avail opsA insA o d = true → Ik kindsA d w (a.eval (.tmp d))) : Stp Tryd.prog opsA Q (Ik kindsA) 17 o a w := by
  obtain rfl := Option.some.inj (eA17.symm.trans ho)
  exact k_same eA17 (want_some (j := 9) (d := 70) (b := true) rfl (by kernel_rfl) (H 70 (by kernel_rfl))) (g := [([1, 2], sN, 1), ([3, 2], sV, 2)]) (h := [([1, 2], sN, 1), ([3, 2], sV, 2)]) rfl rfl (s := 72) (u := 77) (H 72 (by kernel_rfl)) (H 77 (by kernel_rfl)) rfl rfl
theorem sA18 {o : Oper} (ho : opsA[18]? = some o) (H : ∀ d, avail opsA insA o d = true → Ik kindsA d w (a.eval (.tmp d))) : Stp Tryd.prog opsA Q (Ik kindsA) 18 o a w := by
  obtain rfl := Option.some.inj (eA18.symm.trans ho)
  exact k_pick eA18 (want_none rfl) rfl rfl (s := 70) (u := 78) (H 70 (by kernel_rfl)) (H 78 (by kernel_rfl)) rfl
theorem sA19 {o : Oper} (ho : opsA[19]? = some o) (H : ∀ d, avail opsA insA o d = true → Ik kindsA d w (a.eval (.tmp d))) : Stp Tryd.prog opsA Q (Ik kindsA) 19 o a w := by
  obtain rfl := Option.some.inj (eA19.symm.trans ho)
  exact k_move eA19 (want_none rfl) rfl rfl (k := .B) rfl rfl (H 79 (by kernel_rfl))
theorem sA20 {o : Oper} (ho : opsA[20]? = some o) (H : ∀ d, avail opsA insA o d = true → Ik kindsA d w (a.eval (.tmp d))) : Stp Tryd.prog opsA Q (Ik kindsA) 20 o a w := by
  obtain rfl := Option.some.inj (eA20.symm.trans ho)
  exact k_move eA20 (want_some (j := 19) (d := 80) (b := true) rfl (by kernel_rfl) (H 80 (by kernel_rfl))) rfl rfl (k := (.C 0)) rfl rfl (H 6 (by kernel_rfl))
theorem sA21 {o : Oper} (ho : opsA[21]? = some o) (H : ∀ d, avail opsA insA o d = true → Ik kindsA d w (a.eval (.tmp d))) : Stp Tryd.prog opsA Q (Ik kindsA) 21 o a w := by
  obtain rfl := Option.some.inj (eA21.symm.trans ho)
  exact k_eq29 eA21 (want_some (j := 19) (d := 80) (b := true) rfl (by kernel_rfl) (H 80 (by kernel_rfl))) rfl rfl (s := 81) (n := 0) (H 81 (by kernel_rfl)) rfl
theorem sA22 {o : Oper} (ho : opsA[22]? = some o) (H : ∀ d, avail opsA insA o d = true → Ik kindsA d w (a.eval (.tmp d))) : Stp Tryd.prog opsA Q (Ik kindsA) 22 o a w := by
  obtain rfl := Option.some.inj (eA22.symm.trans ho)
  exact k_pick eA22 (want_none rfl) rfl rfl (s := 80) (u := 82) (H 80 (by kernel_rfl)) (H 82 (by kernel_rfl)) rfl
theorem sA23 {o : Oper} (ho : opsA[23]? = some o) (H : ∀ d, avail opsA insA o d = true → Ik kindsA d w (a.eval (.tmp d))) : Stp Tryd.prog opsA Q (Ik kindsA) 23 o a w := by
  obtain rfl := Option.some.inj (eA23.symm.trans ho)
  exact k_move eA23 (want_none rfl) rfl rfl (k := .B) rfl rfl (H 83 (by kernel_rfl))
theorem sA24 {o : Oper} (ho : opsA[24]? = some o) (H : ∀ d, avail opsA insA o d = true → Ik kindsA d w (a.eval (.tmp d))) : Stp Tryd.prog opsA Q (Ik kindsA) 24 o a w := by
  obtain rfl := Option.some.inj (eA24.symm.trans ho)
  exact k_move eA24 (want_some (j := 23) (d := 84) (b := true) rfl (by kernel_rfl) (H 84 (by kernel_rfl))) rfl rfl (k := (.R [([2], sV, 2), ([2], sN, 1)])) rfl rfl (H 5 (by kernel_rfl))
theorem sA25 {o : Oper} (ho : opsA[25]? = some o) (H : ∀ d, avail opsA insA o d = true → Ik kindsA d w (a.eval (.tmp d))) : Stp Tryd.prog opsA Q (Ik kindsA) 25 o a w := by
  obtain rfl := Option.some.inj (eA25.symm.trans ho)
  exact k_ints1 eA25 (want_some (j := 23) (d := 84) (b := true) rfl (by kernel_rfl) (H 84 (by kernel_rfl))) rfl rfl rfl (by decide)
theorem sA26 {o : Oper} (ho : opsA[26]? = some o) (H : ∀ d, avail opsA insA o d = true → Ik kindsA d w (a.eval (.tmp d))) : Stp Tryd.prog opsA Q (Ik kindsA) 26 o a w := by
  obtain rfl := Option.some.inj (eA26.symm.trans ho)
  exact k_end eA26 (want_some (j := 23) (d := 84) (b := true) rfl (by kernel_rfl) (H 84 (by kernel_rfl))) (x := [2]) (t := sV) (n := 2) (s := 86) rfl rfl rfl (H 86 (by kernel_rfl)) (by decide) (by simp [inI64])
theorem sA27 {o : Oper} (ho : opsA[27]? = some o) (H : ∀ d, avail opsA insA o d = true → Ik kindsA d w (a.eval (.tmp d))) : Stp Tryd.prog opsA Q (Ik kindsA) 27 o a w := by
  obtain rfl := Option.some.inj (eA27.symm.trans ho)
  exact k_ints1 eA27 (want_some (j := 23) (d := 84) (b := true) rfl (by kernel_rfl) (H 84 (by kernel_rfl))) rfl rfl rfl (by decide)
theorem sA28 {o : Oper} (ho : opsA[28]? = some o) (H : ∀ d, avail opsA insA o d = true → Ik kindsA d w (a.eval (.tmp d))) : Stp Tryd.prog opsA Q (Ik kindsA) 28 o a w := by
  obtain rfl := Option.some.inj (eA28.symm.trans ho)
  exact k_end eA28 (want_some (j := 23) (d := 84) (b := true) rfl (by kernel_rfl) (H 84 (by kernel_rfl))) (x := [2]) (t := sN) (n := 1) (s := 88) rfl rfl rfl (H 88 (by kernel_rfl)) (by decide) (by simp [inI64])
theorem sA29 {o : Oper} (ho : opsA[29]? = some o) (H : ∀ d, avail opsA insA o d = true → Ik kindsA d w (a.eval (.tmp d))) : Stp Tryd.prog opsA Q (Ik kindsA) 29 o a w := by
  obtain rfl := Option.some.inj (eA29.symm.trans ho)
  exact k_ens2 eA29 (want_some (j := 23) (d := 84) (b := true) rfl (by kernel_rfl) (H 84 (by kernel_rfl))) rfl rfl (s1 := 87) (s2 := 89) (H 87 (by kernel_rfl)) (H 89 (by kernel_rfl)) rfl
theorem sA30 {o : Oper} (ho : opsA[30]? = some o) (H : ∀ d, avail opsA insA o d = true → Ik kindsA d w (a.eval (.tmp d))) : Stp Tryd.prog opsA Q (Ik kindsA) 30 o a w := by
  obtain rfl := Option.some.inj (eA30.symm.trans ho)
  exact k_same eA30 (want_some (j := 23) (d := 84) (b := true) rfl (by kernel_rfl) (H 84 (by kernel_rfl))) (g := [([2], sV, 2), ([2], sN, 1)]) (h := [([2], sV, 2), ([2], sN, 1)]) rfl rfl (s := 85) (u := 90) (H 85 (by kernel_rfl)) (H 90 (by kernel_rfl)) rfl rfl
theorem sA31 {o : Oper} (ho : opsA[31]? = some o) (H : ∀ d, avail opsA insA o d = true → Ik kindsA d w (a.eval (.tmp d))) : Stp Tryd.prog opsA Q (Ik kindsA) 31 o a w := by
  obtain rfl := Option.some.inj (eA31.symm.trans ho)
  exact k_pick eA31 (want_none rfl) rfl rfl (s := 84) (u := 91) (H 84 (by kernel_rfl)) (H 91 (by kernel_rfl)) rfl
theorem sA32 {o : Oper} (ho : opsA[32]? = some o) (H : ∀ d, avail opsA insA o d = true → Ik kindsA d w (a.eval (.tmp d))) : Stp Tryd.prog opsA Q (Ik kindsA) 32 o a w := by
  obtain rfl := Option.some.inj (eA32.symm.trans ho)
  exact k_move eA32 (want_none rfl) rfl rfl (k := .B) rfl rfl (H 92 (by kernel_rfl))
theorem sA33 {o : Oper} (ho : opsA[33]? = some o) (H : ∀ d, avail opsA insA o d = true → Ik kindsA d w (a.eval (.tmp d))) : Stp Tryd.prog opsA Q (Ik kindsA) 33 o a w := by
  obtain rfl := Option.some.inj (eA33.symm.trans ho)
  exact k_move eA33 (want_some (j := 32) (d := 93) (b := true) rfl (by kernel_rfl) (H 93 (by kernel_rfl))) rfl rfl (k := (.C 0)) rfl rfl (H 8 (by kernel_rfl))
theorem sA34 {o : Oper} (ho : opsA[34]? = some o) (H : ∀ d, avail opsA insA o d = true → Ik kindsA d w (a.eval (.tmp d))) : Stp Tryd.prog opsA Q (Ik kindsA) 34 o a w := by
  obtain rfl := Option.some.inj (eA34.symm.trans ho)
  exact k_eq29 eA34 (want_some (j := 32) (d := 93) (b := true) rfl (by kernel_rfl) (H 93 (by kernel_rfl))) rfl rfl (s := 94) (n := 0) (H 94 (by kernel_rfl)) rfl
theorem sA35 {o : Oper} (ho : opsA[35]? = some o) (H : ∀ d, avail opsA insA o d = true → Ik kindsA d w (a.eval (.tmp d))) : Stp Tryd.prog opsA Q (Ik kindsA) 35 o a w := by
  obtain rfl := Option.some.inj (eA35.symm.trans ho)
  exact k_pick eA35 (want_none rfl) rfl rfl (s := 93) (u := 95) (H 93 (by kernel_rfl)) (H 95 (by kernel_rfl)) rfl
theorem sA36 {o : Oper} (ho : opsA[36]? = some o) (H : ∀ d, avail opsA insA o d = true → Ik kindsA d w (a.eval (.tmp d))) : Stp Tryd.prog opsA Q (Ik kindsA) 36 o a w := by
  obtain rfl := Option.some.inj (eA36.symm.trans ho)
  exact k_move eA36 (want_none rfl) rfl rfl (k := .B) rfl rfl (H 96 (by kernel_rfl))
theorem sA37 {o : Oper} (ho : opsA[37]? = some o) (H : ∀ d, avail opsA insA o d = true → Ik kindsA d w (a.eval (.tmp d))) : Stp Tryd.prog opsA Q (Ik kindsA) 37 o a w := by
  obtain rfl := Option.some.inj (eA37.symm.trans ho)
  exact k_move eA37 (want_some (j := 36) (d := 97) (b := true) rfl (by kernel_rfl) (H 97 (by kernel_rfl))) rfl rfl (k := (.R [([3, 2], sV, 2)])) rfl rfl (H 7 (by kernel_rfl))
theorem sA38 {o : Oper} (ho : opsA[38]? = some o) (H : ∀ d, avail opsA insA o d = true → Ik kindsA d w (a.eval (.tmp d))) : Stp Tryd.prog opsA Q (Ik kindsA) 38 o a w := by
  obtain rfl := Option.some.inj (eA38.symm.trans ho)
  exact k_ints2 eA38 (want_some (j := 36) (d := 97) (b := true) rfl (by kernel_rfl) (H 97 (by kernel_rfl))) rfl rfl rfl (by decide)
theorem sA39 {o : Oper} (ho : opsA[39]? = some o) (H : ∀ d, avail opsA insA o d = true → Ik kindsA d w (a.eval (.tmp d))) : Stp Tryd.prog opsA Q (Ik kindsA) 39 o a w := by
  obtain rfl := Option.some.inj (eA39.symm.trans ho)
  exact k_end eA39 (want_some (j := 36) (d := 97) (b := true) rfl (by kernel_rfl) (H 97 (by kernel_rfl))) (x := [3, 2]) (t := sV) (n := 2) (s := 99) rfl rfl rfl (H 99 (by kernel_rfl)) (by decide) (by simp [inI64])
theorem sA40 {o : Oper} (ho : opsA[40]? = some o) (H : ∀ d, avail opsA insA o d = true → Ik kindsA d w (a.eval (.tmp d))) : Stp Tryd.prog opsA Q (Ik kindsA) 40 o a w := by
  obtain rfl := Option.some.inj (eA40.symm.trans ho)
  exact k_ens1 eA40 (want_some (j := 36) (d := 97) (b := true) rfl (by kernel_rfl) (H 97 (by kernel_rfl))) rfl rfl (s1 := 100) (H 100 (by kernel_rfl)) rfl
theorem sA41 {o : Oper} (ho : opsA[41]? = some o) (H : ∀ d, avail opsA insA o d = true → Ik kindsA d w (a.eval (.tmp d))) : Stp Tryd.prog opsA Q (Ik kindsA) 41 o a w := by
  obtain rfl := Option.some.inj (eA41.symm.trans ho)
  exact k_same eA41 (want_some (j := 36) (d := 97) (b := true) rfl (by kernel_rfl) (H 97 (by kernel_rfl))) (g := [([3, 2], sV, 2)]) (h := [([3, 2], sV, 2)]) rfl rfl (s := 98) (u := 101) (H 98 (by kernel_rfl)) (H 101 (by kernel_rfl)) rfl rfl
theorem sA42 {o : Oper} (ho : opsA[42]? = some o) (H : ∀ d, avail opsA insA o d = true → Ik kindsA d w (a.eval (.tmp d))) : Stp Tryd.prog opsA Q (Ik kindsA) 42 o a w := by
  obtain rfl := Option.some.inj (eA42.symm.trans ho)
  exact k_pick eA42 (want_none rfl) rfl rfl (s := 97) (u := 102) (H 97 (by kernel_rfl)) (H 102 (by kernel_rfl)) rfl
theorem sA43 {o : Oper} (ho : opsA[43]? = some o) (H : ∀ d, avail opsA insA o d = true → Ik kindsA d w (a.eval (.tmp d))) : Stp Tryd.prog opsA Q (Ik kindsA) 43 o a w := by
  obtain rfl := Option.some.inj (eA43.symm.trans ho)
  exact k_move eA43 (want_none rfl) rfl rfl (k := .B) rfl rfl (H 103 (by kernel_rfl))
theorem sA44 {o : Oper} (ho : opsA[44]? = some o) (H : ∀ d, avail opsA insA o d = true → Ik kindsA d w (a.eval (.tmp d))) : Stp Tryd.prog opsA Q (Ik kindsA) 44 o a w := by
  obtain rfl := Option.some.inj (eA44.symm.trans ho)
  exact k_move eA44 (want_some (j := 43) (d := 104) (b := true) rfl (by kernel_rfl) (H 104 (by kernel_rfl))) rfl rfl (k := (.C 0)) rfl rfl (H 10 (by kernel_rfl))
theorem sA45 {o : Oper} (ho : opsA[45]? = some o) (H : ∀ d, avail opsA insA o d = true → Ik kindsA d w (a.eval (.tmp d))) : Stp Tryd.prog opsA Q (Ik kindsA) 45 o a w := by
  obtain rfl := Option.some.inj (eA45.symm.trans ho)
  exact k_eq29 eA45 (want_some (j := 43) (d := 104) (b := true) rfl (by kernel_rfl) (H 104 (by kernel_rfl))) rfl rfl (s := 105) (n := 0) (H 105 (by kernel_rfl)) rfl
theorem sA46 {o : Oper} (ho : opsA[46]? = some o) (H : ∀ d, avail opsA insA o d = true → Ik kindsA d w (a.eval (.tmp d))) : Stp Tryd.prog opsA Q (Ik kindsA) 46 o a w := by
  obtain rfl := Option.some.inj (eA46.symm.trans ho)
  exact k_pick eA46 (want_none rfl) rfl rfl (s := 104) (u := 106) (H 104 (by kernel_rfl)) (H 106 (by kernel_rfl)) rfl
theorem sA47 {o : Oper} (ho : opsA[47]? = some o) (H : ∀ d, avail opsA insA o d = true → Ik kindsA d w (a.eval (.tmp d))) : Stp Tryd.prog opsA Q (Ik kindsA) 47 o a w := by
  obtain rfl := Option.some.inj (eA47.symm.trans ho)
  exact k_move eA47 (want_none rfl) rfl rfl (k := .B) rfl rfl (H 107 (by kernel_rfl))
theorem sA48 {o : Oper} (ho : opsA[48]? = some o) (H : ∀ d, avail opsA insA o d = true → Ik kindsA d w (a.eval (.tmp d))) : Stp Tryd.prog opsA Q (Ik kindsA) 48 o a w := by
  obtain rfl := Option.some.inj (eA48.symm.trans ho)
  exact k_move eA48 (want_some (j := 47) (d := 108) (b := true) rfl (by kernel_rfl) (H 108 (by kernel_rfl))) rfl rfl (k := (.R [([], sV, 2), ([], sN, 1)])) rfl rfl (H 9 (by kernel_rfl))
theorem sA49 {o : Oper} (ho : opsA[49]? = some o) (H : ∀ d, avail opsA insA o d = true → Ik kindsA d w (a.eval (.tmp d))) : Stp Tryd.prog opsA Q (Ik kindsA) 49 o a w := by
  obtain rfl := Option.some.inj (eA49.symm.trans ho)
  exact k_end0 eA49 (want_some (j := 47) (d := 108) (b := true) rfl (by kernel_rfl) (H 108 (by kernel_rfl))) (t := sV) (n := 2) rfl rfl rfl (by decide) (by simp [inI64])
theorem sA50 {o : Oper} (ho : opsA[50]? = some o) (H : ∀ d, avail opsA insA o d = true → Ik kindsA d w (a.eval (.tmp d))) : Stp Tryd.prog opsA Q (Ik kindsA) 50 o a w := by
  obtain rfl := Option.some.inj (eA50.symm.trans ho)
  exact k_end0 eA50 (want_some (j := 47) (d := 108) (b := true) rfl (by kernel_rfl) (H 108 (by kernel_rfl))) (t := sN) (n := 1) rfl rfl rfl (by decide) (by simp [inI64])
theorem sA51 {o : Oper} (ho : opsA[51]? = some o) (H : ∀ d, avail opsA insA o d = true → Ik kindsA d w (a.eval (.tmp d))) : Stp Tryd.prog opsA Q (Ik kindsA) 51 o a w := by
  obtain rfl := Option.some.inj (eA51.symm.trans ho)
  exact k_ens2 eA51 (want_some (j := 47) (d := 108) (b := true) rfl (by kernel_rfl) (H 108 (by kernel_rfl))) rfl rfl (s1 := 110) (s2 := 111) (H 110 (by kernel_rfl)) (H 111 (by kernel_rfl)) rfl
theorem sA52 {o : Oper} (ho : opsA[52]? = some o) (H : ∀ d, avail opsA insA o d = true → Ik kindsA d w (a.eval (.tmp d))) : Stp Tryd.prog opsA Q (Ik kindsA) 52 o a w := by
  obtain rfl := Option.some.inj (eA52.symm.trans ho)
  exact k_same eA52 (want_some (j := 47) (d := 108) (b := true) rfl (by kernel_rfl) (H 108 (by kernel_rfl))) (g := [([], sV, 2), ([], sN, 1)]) (h := [([], sV, 2), ([], sN, 1)]) rfl rfl (s := 109) (u := 112) (H 109 (by kernel_rfl)) (H 112 (by kernel_rfl)) rfl rfl
theorem sA53 {o : Oper} (ho : opsA[53]? = some o) (H : ∀ d, avail opsA insA o d = true → Ik kindsA d w (a.eval (.tmp d))) : Stp Tryd.prog opsA Q (Ik kindsA) 53 o a w := by
  obtain rfl := Option.some.inj (eA53.symm.trans ho)
  exact k_pick eA53 (want_none rfl) rfl rfl (s := 108) (u := 113) (H 108 (by kernel_rfl)) (H 113 (by kernel_rfl)) rfl
theorem sA54 {o : Oper} (ho : opsA[54]? = some o) (H : ∀ d, avail opsA insA o d = true → Ik kindsA d w (a.eval (.tmp d))) : Stp Tryd.prog opsA Q (Ik kindsA) 54 o a w := by
  obtain rfl := Option.some.inj (eA54.symm.trans ho)
  exact k_move eA54 (want_none rfl) rfl rfl (k := .B) rfl rfl (H 114 (by kernel_rfl))
theorem sA55 {o : Oper} (ho : opsA[55]? = some o) (H : ∀ d, avail opsA insA o d = true → Ik kindsA d w (a.eval (.tmp d))) : Stp Tryd.prog opsA Q (Ik kindsA) 55 o a w := by
  obtain rfl := Option.some.inj (eA55.symm.trans ho)
  exact k_move eA55 (want_some (j := 54) (d := 115) (b := true) rfl (by kernel_rfl) (H 115 (by kernel_rfl))) rfl rfl (k := (.C 4)) rfl rfl (H 12 (by kernel_rfl))
theorem sA56 {o : Oper} (ho : opsA[56]? = some o) (H : ∀ d, avail opsA insA o d = true → Ik kindsA d w (a.eval (.tmp d))) : Stp Tryd.prog opsA Q (Ik kindsA) 56 o a w := by
  obtain rfl := Option.some.inj (eA56.symm.trans ho)
  exact k_eq29 eA56 (want_some (j := 54) (d := 115) (b := true) rfl (by kernel_rfl) (H 115 (by kernel_rfl))) rfl rfl (s := 116) (n := 4) (H 116 (by kernel_rfl)) rfl
theorem sA57 {o : Oper} (ho : opsA[57]? = some o) (H : ∀ d, avail opsA insA o d = true → Ik kindsA d w (a.eval (.tmp d))) : Stp Tryd.prog opsA Q (Ik kindsA) 57 o a w := by
  obtain rfl := Option.some.inj (eA57.symm.trans ho)
  exact k_pick eA57 (want_none rfl) rfl rfl (s := 115) (u := 117) (H 115 (by kernel_rfl)) (H 117 (by kernel_rfl)) rfl
theorem sA58 {o : Oper} (ho : opsA[58]? = some o) (H : ∀ d, avail opsA insA o d = true → Ik kindsA d w (a.eval (.tmp d))) : Stp Tryd.prog opsA Q (Ik kindsA) 58 o a w := by
  obtain rfl := Option.some.inj (eA58.symm.trans ho)
  exact k_move eA58 (want_none rfl) rfl rfl (k := .B) rfl rfl (H 118 (by kernel_rfl))
theorem sA59 {o : Oper} (ho : opsA[59]? = some o) (H : ∀ d, avail opsA insA o d = true → Ik kindsA d w (a.eval (.tmp d))) : Stp Tryd.prog opsA Q (Ik kindsA) 59 o a w := by
  obtain rfl := Option.some.inj (eA59.symm.trans ho)
  exact k_move eA59 (want_some (j := 58) (d := 119) (b := true) rfl (by kernel_rfl) (H 119 (by kernel_rfl))) rfl rfl (k := (.S sV)) rfl rfl (H 13 (by kernel_rfl))
theorem sA60 {o : Oper} (ho : opsA[60]? = some o) (H : ∀ d, avail opsA insA o d = true → Ik kindsA d w (a.eval (.tmp d))) : Stp Tryd.prog opsA Q (Ik kindsA) 60 o a w := by
  obtain rfl := Option.some.inj (eA60.symm.trans ho)
  exact k_len eA60 (want_some (j := 58) (d := 119) (b := true) rfl (by kernel_rfl) (H 119 (by kernel_rfl))) rfl rfl (s := 120) (t := sV) (H 120 (by kernel_rfl)) rfl
theorem sA61 {o : Oper} (ho : opsA[61]? = some o) (H : ∀ d, avail opsA insA o d = true → Ik kindsA d w (a.eval (.tmp d))) : Stp Tryd.prog opsA Q (Ik kindsA) 61 o a w := by
  obtain rfl := Option.some.inj (eA61.symm.trans ho)
  exact k_eq3 eA61 (want_some (j := 58) (d := 119) (b := true) rfl (by kernel_rfl) (H 119 (by kernel_rfl))) rfl rfl (s := 121) (n := 1) (H 121 (by kernel_rfl)) rfl
theorem sA62 {o : Oper} (ho : opsA[62]? = some o) (H : ∀ d, avail opsA insA o d = true → Ik kindsA d w (a.eval (.tmp d))) : Stp Tryd.prog opsA Q (Ik kindsA) 62 o a w := by
  obtain rfl := Option.some.inj (eA62.symm.trans ho)
  exact k_pick eA62 (want_none rfl) rfl rfl (s := 119) (u := 122) (H 119 (by kernel_rfl)) (H 122 (by kernel_rfl)) rfl
theorem sA63 {o : Oper} (ho : opsA[63]? = some o) (H : ∀ d, avail opsA insA o d = true → Ik kindsA d w (a.eval (.tmp d))) : Stp Tryd.prog opsA Q (Ik kindsA) 63 o a w := by
  obtain rfl := Option.some.inj (eA63.symm.trans ho)
  exact k_move eA63 (want_none rfl) rfl rfl (k := .B) rfl rfl (H 123 (by kernel_rfl))
theorem sA64 {o : Oper} (ho : opsA[64]? = some o) (H : ∀ d, avail opsA insA o d = true → Ik kindsA d w (a.eval (.tmp d))) : Stp Tryd.prog opsA Q (Ik kindsA) 64 o a w := by
  obtain rfl := Option.some.inj (eA64.symm.trans ho)
  exact k_move eA64 (want_some (j := 63) (d := 124) (b := true) rfl (by kernel_rfl) (H 124 (by kernel_rfl))) rfl rfl (k := (.S sV)) rfl rfl (H 13 (by kernel_rfl))
theorem sA65 {o : Oper} (ho : opsA[65]? = some o) (H : ∀ d, avail opsA insA o d = true → Ik kindsA d w (a.eval (.tmp d))) : Stp Tryd.prog opsA Q (Ik kindsA) 65 o a w := by
  obtain rfl := Option.some.inj (eA65.symm.trans ho)
  exact k_index eA65 (want_some (j := 63) (d := 124) (b := true) rfl (by kernel_rfl) (H 124 (by kernel_rfl))) rfl rfl (s := 125) (t := sV) (H 125 (by kernel_rfl)) rfl
theorem sA66 {o : Oper} (ho : opsA[66]? = some o) (H : ∀ d, avail opsA insA o d = true → Ik kindsA d w (a.eval (.tmp d))) : Stp Tryd.prog opsA Q (Ik kindsA) 66 o a w := by
  obtain rfl := Option.some.inj (eA66.symm.trans ho)
  exact k_load eA66 (want_some (j := 63) (d := 124) (b := true) rfl (by kernel_rfl) (H 124 (by kernel_rfl))) rfl rfl (s := 126) (t := sV) (H 126 (by kernel_rfl)) rfl
theorem sA67 {o : Oper} (ho : opsA[67]? = some o) (H : ∀ d, avail opsA insA o d = true → Ik kindsA d w (a.eval (.tmp d))) : Stp Tryd.prog opsA Q (Ik kindsA) 67 o a w := by
  obtain rfl := Option.some.inj (eA67.symm.trans ho)
  exact k_eq9 eA67 (want_some (j := 63) (d := 124) (b := true) rfl (by kernel_rfl) (H 124 (by kernel_rfl))) rfl rfl (s := 127) (H 127 (by kernel_rfl)) rfl
theorem sA68 {o : Oper} (ho : opsA[68]? = some o) (H : ∀ d, avail opsA insA o d = true → Ik kindsA d w (a.eval (.tmp d))) : Stp Tryd.prog opsA Q (Ik kindsA) 68 o a w := by
  obtain rfl := Option.some.inj (eA68.symm.trans ho)
  exact k_pick eA68 (want_none rfl) rfl rfl (s := 124) (u := 128) (H 124 (by kernel_rfl)) (H 128 (by kernel_rfl)) rfl
theorem sA69 {o : Oper} (ho : opsA[69]? = some o) (H : ∀ d, avail opsA insA o d = true → Ik kindsA d w (a.eval (.tmp d))) : Stp Tryd.prog opsA Q (Ik kindsA) 69 o a w := by
  obtain rfl := Option.some.inj (eA69.symm.trans ho)
  exact k_assign eA69 (want_none rfl) rfl rfl (k := .B) rfl rfl (H 129 (by kernel_rfl))
end
theorem stepsA {Q : Exit → Act → World → Prop} : ∀ i o, opsA[i]? = some o → ∀ a w, (∀ d, avail opsA insA o d = true → Ik kindsA d w (a.eval (.tmp d))) → Stp Tryd.prog opsA Q (Ik kindsA) i o a w := by
  intro i o ho a w H
  have hi : i < 70 := by have := (Array.getElem?_eq_some_iff.1 ho).1; rw [opsA_size] at this; exact this
  match i, hi, ho with
  | 0, _, ho => exact sA0 ho H
  | 1, _, ho => exact sA1 ho H
  | 2, _, ho => exact sA2 ho H
  | 3, _, ho => exact sA3 ho H
  | 4, _, ho => exact sA4 ho H
  | 5, _, ho => exact sA5 ho H
  | 6, _, ho => exact sA6 ho H
  | 7, _, ho => exact sA7 ho H
  | 8, _, ho => exact sA8 ho H
  | 9, _, ho => exact sA9 ho H
  | 10, _, ho => exact sA10 ho H
  | 11, _, ho => exact sA11 ho H
  | 12, _, ho => exact sA12 ho H
  | 13, _, ho => exact sA13 ho H
  | 14, _, ho => exact sA14 ho H
  | 15, _, ho => exact sA15 ho H
  | 16, _, ho => exact sA16 ho H
  | 17, _, ho => exact sA17 ho H
  | 18, _, ho => exact sA18 ho H
  | 19, _, ho => exact sA19 ho H
  | 20, _, ho => exact sA20 ho H
  | 21, _, ho => exact sA21 ho H
  | 22, _, ho => exact sA22 ho H
  | 23, _, ho => exact sA23 ho H
  | 24, _, ho => exact sA24 ho H
  | 25, _, ho => exact sA25 ho H
  | 26, _, ho => exact sA26 ho H
  | 27, _, ho => exact sA27 ho H
  | 28, _, ho => exact sA28 ho H
  | 29, _, ho => exact sA29 ho H
  | 30, _, ho => exact sA30 ho H
  | 31, _, ho => exact sA31 ho H
  | 32, _, ho => exact sA32 ho H
  | 33, _, ho => exact sA33 ho H
  | 34, _, ho => exact sA34 ho H
  | 35, _, ho => exact sA35 ho H
  | 36, _, ho => exact sA36 ho H
  | 37, _, ho => exact sA37 ho H
  | 38, _, ho => exact sA38 ho H
  | 39, _, ho => exact sA39 ho H
  | 40, _, ho => exact sA40 ho H
  | 41, _, ho => exact sA41 ho H
  | 42, _, ho => exact sA42 ho H
  | 43, _, ho => exact sA43 ho H
  | 44, _, ho => exact sA44 ho H
  | 45, _, ho => exact sA45 ho H
  | 46, _, ho => exact sA46 ho H
  | 47, _, ho => exact sA47 ho H
  | 48, _, ho => exact sA48 ho H
  | 49, _, ho => exact sA49 ho H
  | 50, _, ho => exact sA50 ho H
  | 51, _, ho => exact sA51 ho H
  | 52, _, ho => exact sA52 ho H
  | 53, _, ho => exact sA53 ho H
  | 54, _, ho => exact sA54 ho H
  | 55, _, ho => exact sA55 ho H
  | 56, _, ho => exact sA56 ho H
  | 57, _, ho => exact sA57 ho H
  | 58, _, ho => exact sA58 ho H
  | 59, _, ho => exact sA59 ho H
  | 60, _, ho => exact sA60 ho H
  | 61, _, ho => exact sA61 ho H
  | 62, _, ho => exact sA62 ho H
  | 63, _, ho => exact sA63 ho H
  | 64, _, ho => exact sA64 ho H
  | 65, _, ho => exact sA65 ho H
  | 66, _, ho => exact sA66 ho H
  | 67, _, ho => exact sA67 ho H
  | 68, _, ho => exact sA68 ho H
  | 69, _, ho => exact sA69 ho H
end Go.Proofs.YtonadloonidmjaaDoor

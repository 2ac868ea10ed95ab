/- A slice of the call's own that grows by append, element by element or list by list; what it reads as in the end. Conditions: the bounds of the model on a slice's length and bytes. -/
import Derived.Test.YtonadloonidmjaaDoorLib
namespace Go.Proofs.YtonadloonidmjaaDoor
open Go.RowKit

/-- The slice v is the call's own (its row lies from block 'base' on) and reads as xs; what its elements lead to lies from 'base' on, outside the row's block. -/
def Acc {α : Type} (T : Ty α) (e : TypeId) (w : World) (base : Nat) (v : Value) (xs : List α) : Prop :=
  ∃ css : List (List Value), w.ownsRow base e T.size v xs.length css.flatten ∧ css.length = xs.length ∧
    ∀ (j : Nat) (x : α) (cs : List Value), xs[j]? = some x → css[j]? = some cs → T.rep w (fun b => base ≤ b ∧ some b ≠ v.ownBlock) cs x

section
variable {α : Type} {T : Ty α} {e : TypeId} {w w' : World} {base : Nat} {v : Value} {xs ys : List α}

theorem flatten_at {css : List (List Value)} {s : Nat} (hs : ∀ cs ∈ css, cs.length = s) : ∀ (j i : Nat) (cs : List Value) (u : Value), css[j]? = some cs → cs[i]? = some u → css.flatten[j * s + i]? = some u := by
  induction css with
  | nil => intro j i cs u h; simp at h
  | cons c r ih =>
    intro j i cs u hj hi
    have hc := hs c (by simp)
    cases j with
    | zero =>
      simp at hj; subst hj
      have : i < c.length := (List.getElem?_eq_some_iff.1 hi).1
      rw [List.flatten_cons, List.getElem?_append_left (by omega)]
      simpa using hi
    | succ j =>
      simp at hj
      have := ih (fun cs h => hs cs (by simp [h])) j i cs u hj hi
      rw [List.flatten_cons, List.getElem?_append_right (by rw [hc, Nat.succ_mul]; omega), hc]
      rw [show (j + 1) * s + i - s = j * s + i by rw [Nat.succ_mul]; omega]
      exact this

theorem flatten_len {css : List (List Value)} {s : Nat} (hs : ∀ cs ∈ css, cs.length = s) : css.flatten.length = css.length * s := by
  induction css with
  | nil => simp
  | cons c r ih =>
    rw [List.flatten_cons, List.length_append, ih (fun cs h => hs cs (by simp [h])), hs c (by simp), List.length_cons, Nat.succ_mul]
    omega

theorem Acc.nil (w : World) (base : Nat) : Acc T e w base (.slice none 0 0) [] :=
  ⟨[], World.ownsRow_nil w base e T.size, rfl, fun j x cs h => by simp at h⟩

/-- What a 'make' or an empty literal gives. -/
theorem Acc.made {cur : Array Value} {g cap : Nat} (hb : base ≤ g) (hg : w.heap[g]? = some (.cells cur e (0, 0))) (hm : cap ≤ maxLen) (hs : cur.size = cap * T.size) : Acc T e w base (.slice (some ⟨g, 0, none⟩) 0 cap) [] :=
  ⟨[], ⟨by simp, .inr ⟨g, cap, cur, rfl, hb, hg, Nat.zero_le _, hm, hs, by simp⟩⟩, rfl, fun j x cs h => by simp at h⟩

theorem Acc.own (h : Acc T e w base v xs) : ∀ g, v.ownBlock = some g → base ≤ g ∧ g < w.heap.size := by
  obtain ⟨css, h1, _⟩ := h
  exact h1.lt

theorem Acc.form (h : Acc T e w base v xs) : ∃ A c, v = .slice A xs.length c ∧ xs.length ≤ c ∧ c ≤ maxLen := by
  obtain ⟨css, h1, _⟩ := h
  rcases h1.2 with ⟨rfl, h0⟩ | ⟨g, cap, cur, rfl, _, _, h2, h3, _⟩
  · exact ⟨none, 0, by rw [h0], by omega, Nat.zero_le _⟩
  · exact ⟨_, cap, rfl, h2, h3⟩

theorem Acc.sl (h : Acc T e w base v xs) : Sl T w (fun b => base ≤ b ∧ b < w.heap.size) v xs := by
  obtain ⟨css, h1, h2, h3⟩ := h
  have hlen : ∀ cs ∈ css, cs.length = T.size := by
    intro cs hcs
    obtain ⟨j, hj⟩ := List.mem_iff_getElem?.1 hcs
    have hjl : j < xs.length := by have := (List.getElem?_eq_some_iff.1 hj).1; omega
    exact T.len (h3 j _ cs (List.getElem?_eq_getElem hjl) hj)
  rcases h1.2 with ⟨rfl, h0⟩ | ⟨g, cap, cur, rfl, hbg, hg, hn, hc, hsz, htk⟩
  · have : xs = [] := List.eq_nil_of_length_eq_zero h0
    subst this
    exact Sl.nil
  · refine ⟨_, cap, rfl, hn, hc, ?_⟩
    have hgl : g < w.heap.size := (Array.getElem?_eq_some_iff.1 hg).1
    refine .inr ⟨g, 0, rfl, ⟨hbg, hgl⟩, fun j x hj => ?_⟩
    have hjl : j < css.length := by have := (List.getElem?_eq_some_iff.1 hj).1; omega
    have hcs := List.getElem?_eq_getElem hjl
    refine ⟨css[j], T.keep (T.lt (h3 j x _ hj hcs)) (fun b hb => ⟨⟨hb.1.1, hb.2⟩, rfl⟩), fun i u hi => ?_⟩
    have hf := flatten_at hlen j i _ u hcs hi
    rw [← htk, List.getElem?_take] at hf
    split at hf
    · rw [cell_of_row w g (0 + j * T.size + i) cur e (0, 0) hg]
      simpa using hf
    · cases hf

/-- Kept over whatever leaves the row and all else from 'base' on as it was. -/
theorem Acc.grown (h : Acc T e w base v xs) {row : Option Nat} (hg : w.grownBy w' row) (hr : v.ownBlock = none ∨ v.ownBlock ≠ row) (hrow : ∀ g, row = some g → g < base) : Acc T e w' base v xs := by
  obtain ⟨css, h1, h2, h3⟩ := h
  refine ⟨css, h1.kept hg hr, h2, fun j x cs hj hc => T.keep (T.lt (h3 j x cs hj hc)) fun b hb => ⟨hb.1, hg.block b hb.2 (fun e => ?_)⟩⟩
  have := hrow b e.symm
  omega

theorem Acc.after (h : Acc T e w base v xs) (hb : Bw w w') : Acc T e w' base v xs :=
  h.grown (row := none) ⟨hb.os, hb.tape, hb.output, hb.size, fun k hk _ => hb.block k hk⟩ (by cases v.ownBlock <;> simp) (fun g e => by cases e)
theorem Acc.dn (h : Acc T e w base v xs) (n : Nat) : Acc T e (w.drewN n) base v xs := h.after (Dr.n w n).bw
theorem Acc.alloc (h : Acc T e w base v xs) (o : Obj) : Acc T e (w.alloc o) base v xs := h.after ((Below.refl _ _).alloc (Nat.le_refl _) o)

/-- The law: append of a row of cells that reads as ys. -/
theorem Acc.run {P : Program} (h : Acc T e w base v xs) (t ty : TypeId) (i : TypeInfo) (z : Value) (bytes : Nat) (ht : P.underlying t = some (.slice e)) (hi : P.info? e = some i) (hz : i.zero = some z)
    (hsize : i.size = T.size) (hby : i.bytes = bytes) (hzs : z.cells.size = T.size)
    (ad : Addr) (c : Nat) (nss : List (List Value)) (hnl : nss.length = ys.length) (hcells : ∀ j u, nss.flatten[j]? = some u → w.cell? (ad.add j) = some u)
    (hrep : ∀ (j : Nat) (x : α) (cs : List Value), ys[j]? = some x → nss[j]? = some cs → T.rep w (fun b => base ≤ b ∧ some b ≠ v.ownBlock) cs x)
    (h63 : xs.length + ys.length ≤ maxLen) (hbytes : (xs.length + ys.length) * bytes ≤ 140737488355328) (hbase : base ≤ w.heap.size) :
    ∃ v' w', (Builtin.append_ #[t, t] ty #[v, .slice (some ad) ys.length c]).run P w = .ok v' w' ∧ Acc T e w' base v' (xs ++ ys) ∧ w.grownBy w' v.ownBlock ∧
      (v'.ownBlock = v.ownBlock ∨ v'.ownBlock = some w.heap.size) := by
  obtain ⟨css, h1, h2, h3⟩ := h
  have hnlen : ∀ cs ∈ nss, cs.length = T.size := by
    intro cs hcs
    obtain ⟨j, hj⟩ := List.mem_iff_getElem?.1 hcs
    have hjl : j < ys.length := by have := (List.getElem?_eq_some_iff.1 hj).1; omega
    exact T.len (hrep j _ cs (List.getElem?_eq_getElem hjl) hj)
  have hfl : nss.flatten.length = ys.length * T.size := by
    rw [← hnl]; exact flatten_len hnlen
  have hone : ∀ u ∈ nss.flatten, u.oneCell' = true := by
    intro u hu
    obtain ⟨cs, hcs, huc⟩ := List.mem_flatten.1 hu
    obtain ⟨j, hj⟩ := List.mem_iff_getElem?.1 hcs
    have hjl : j < ys.length := by have := (List.getElem?_eq_some_iff.1 hj).1; omega
    exact T.one (hrep j _ cs (List.getElem?_eq_getElem hjl) hj) u huc
  obtain ⟨v', w', hrun, k1, k2, _, k4⟩ := run_append_own_at (P := P) w base t ty e i z T.size bytes ht hi hz hsize hby hzs T.pos v xs.length css.flatten h1 ad ys.length c nss.flatten hfl hcells hone h63 hbytes hbase
  refine ⟨v', w', hrun, ⟨css ++ nss, ?_, by simp [h2, hnl], ?_⟩, k2, k4⟩
  · rw [List.flatten_append, List.length_append]; exact k1
  · intro j x cs hj hc
    have old : T.rep w (fun b => base ≤ b ∧ some b ≠ v.ownBlock) cs x := by
      rw [List.getElem?_append] at hj hc
      by_cases hjx : j < xs.length
      · rw [if_pos hjx] at hj; rw [if_pos (by omega)] at hc
        exact h3 j x cs hj hc
      · rw [if_neg hjx] at hj; rw [if_neg (by omega), h2] at hc
        exact hrep _ x cs hj hc
    refine T.keep (T.lt old) fun b hb => ⟨⟨hb.1.1, ?_⟩, k2.block b hb.2 hb.1.2⟩
    rcases k4 with k | k
    · rw [k]; exact hb.1.2
    · rw [k]; intro e; injection e with e; have := hb.2; omega

/-- .. of a slice that reads as ys, nil and empty ones too. -/
theorem Acc.run_sl {P : Program} (h : Acc T e w base v xs) (t ty : TypeId) (i : TypeInfo) (z : Value) (bytes : Nat) (ht : P.underlying t = some (.slice e)) (hi : P.info? e = some i) (hz : i.zero = some z)
    (hsize : i.size = T.size) (hby : i.bytes = bytes) (hzs : z.cells.size = T.size) {D : Nat → Prop} {A : Option Addr} {m c : Nat} (hy : Sl T w D (.slice A m c) ys) (hD : ∀ x cs, T.rep w D cs x → T.rep w (fun b => base ≤ b ∧ some b ≠ v.ownBlock) cs x)
    (h63 : xs.length + ys.length ≤ maxLen) (hbytes : (xs.length + ys.length) * bytes ≤ 140737488355328) (hbase : base ≤ w.heap.size) :
    ∃ v' w', (Builtin.append_ #[t, t] ty #[v, .slice A m c]).run P w = .ok v' w' ∧ Acc T e w' base v' (xs ++ ys) ∧ w.grownBy w' v.ownBlock ∧
      (v'.ownBlock = v.ownBlock ∨ v'.ownBlock = some w.heap.size) := by
  obtain ⟨A', c', e0, h2, h3, hrow⟩ := hy
  injection e0 with e1 e2 e3
  subst e1; subst e2; subst e3
  rcases A with _ | ad
  · have h0 : ys = [] := by
      rcases hrow with h | ⟨b, off, hA, _⟩
      · exact h
      · cases hA
    subst h0
    obtain ⟨css, g1, g2, g3⟩ := h
    refine ⟨v, w, ?_, by simpa using ⟨css, g1, g2, g3⟩, ⟨rfl, rfl, rfl, Nat.le_refl _, fun _ _ _ => rfl⟩, .inl rfl⟩
    rcases g1.2 with ⟨rfl, h0⟩ | ⟨g, cap, cur, rfl, _, _, hnc, _⟩
    · simp [Builtin.append_, run_underlying ht, sizeOf, typeInfo, hi, Builtin.lenOf, Builtin.firstCells]
    · simp [Builtin.append_, run_underlying ht, sizeOf, typeInfo, hi, Builtin.lenOf, Builtin.firstCells, hnc, storeCells]
  · rcases hrow with rfl | ⟨b, off, hA, hDb, hx⟩
    · exact h.run t ty i z bytes ht hi hz hsize hby hzs ad c [] rfl (fun j u hj => by simp at hj) (fun j x cs hj => by simp at hj) h63 hbytes hbase
    · injection hA with hA; subst hA
      have hex : ∀ j, ∃ cs, ∀ x, ys[j]? = some x → T.rep w D cs x ∧ ∀ i v, cs[i]? = some v → w.cell? ⟨b, off + j * T.size + i, none⟩ = some v := by
        intro j
        cases hj : ys[j]? with
        | none => exact ⟨[], fun x h => by cases h⟩
        | some x => obtain ⟨cs, q1, q2⟩ := hx j x hj; exact ⟨cs, fun x' h => by injection h with h; subst h; exact ⟨q1, q2⟩⟩
      have hch : ∃ f : Nat → List Value, ∀ j x, ys[j]? = some x → T.rep w D (f j) x ∧ ∀ i v, (f j)[i]? = some v → w.cell? ⟨b, off + j * T.size + i, none⟩ = some v :=
        ⟨fun j => Classical.choose (hex j), fun j => Classical.choose_spec (hex j)⟩
      obtain ⟨f, hf⟩ := hch
      have hmap : ∀ j, ((List.range ys.length).map f)[j]? = if j < ys.length then some (f j) else none := by
        intro j
        by_cases hj : j < ys.length
        · rw [if_pos hj, List.getElem?_map, List.getElem?_range hj]; rfl
        · rw [if_neg hj, List.getElem?_eq_none (by simp; omega)]
      refine h.run t ty i z bytes ht hi hz hsize hby hzs ⟨b, off, none⟩ c ((List.range ys.length).map f) (by simp) ?_ ?_ h63 hbytes hbase
      · -- cell number j of the flattened list
        have hall : ∀ cs ∈ (List.range ys.length).map f, cs.length = T.size := by
          intro cs hcs
          obtain ⟨j, hj, rfl⟩ := List.mem_map.1 hcs
          exact T.len (hf j _ (List.getElem?_eq_getElem (List.mem_range.1 hj))).1
        have hlen : ((List.range ys.length).map f).flatten.length = ys.length * T.size := by
          rw [flatten_len hall]; simp
        intro q u hq
        have hql : q < ys.length * T.size := by have := (List.getElem?_eq_some_iff.1 hq).1; omega
        have hj : q / T.size < ys.length := (Nat.div_lt_iff_lt_mul T.pos).2 hql
        have hi' : q % T.size < T.size := Nat.mod_lt _ T.pos
        have hr := hf (q / T.size) _ (List.getElem?_eq_getElem hj)
        have hlj := T.len hr.1
        have e := flatten_at hall (q / T.size) (q % T.size) (f (q / T.size)) ((f (q / T.size))[q % T.size]'(by omega)) (by rw [hmap, if_pos hj]) (List.getElem?_eq_getElem (by omega))
        rw [Nat.mul_comm, Nat.div_add_mod, hq] at e
        injection e with e
        have := hr.2 (q % T.size) u (by rw [e]; exact List.getElem?_eq_getElem (by omega))
        rw [← this]
        have ea : (⟨b, off, none⟩ : Addr).add q = ⟨b, off + q, none⟩ := by
          unfold Addr.add; split
          · rename_i h0; rw [h0]; rfl
          · rfl
        rw [ea, Nat.add_assoc, Nat.mul_comm, Nat.div_add_mod]
      · intro j x cs hj hc
        rw [hmap, if_pos (List.getElem?_eq_some_iff.1 hj).1] at hc
        injection hc with hc; subst hc
        exact hD _ _ (hf j x hj).1
end

/-- A call that hands back a slice in new memory which reads as xs. -/
def Fr {α : Type} (T : Ty α) (w : World) (xs : List α) (e : Ending) (w' : World) : Prop := ∃ u, e = .returned u ∧ Bw w w' ∧ Sl T w' (Hi w.heap.size) u xs
theorem Acc.hi {α : Type} {T : Ty α} {e : TypeId} {w : World} {base : Nat} {v : Value} {xs : List α} (h : Acc T e w base v xs) : Sl T w (Hi base) v xs := h.sl.weaken fun _ hb => hb.1
/-- The two ways of 'append' that a caller's own block numbers ask for: what lay below stays. -/
theorem Acc.bw {w0 w w' : World} {base : Nat} (h : Bw w0 w) {v : Value} (hg : w.grownBy w' v.ownBlock) (ho : ∀ g, v.ownBlock = some g → base ≤ g) (hb : w0.heap.size ≤ base) : Bw w0 w' :=
  ⟨hg.os.trans h.os, hg.tape.trans h.tape, hg.output.trans h.output, Nat.le_trans h.size hg.size, fun k hk => (hg.block k (Nat.lt_of_lt_of_le hk h.size) (fun e => by have := ho k e.symm; omega)).trans (h.block k hk)⟩

theorem grown_drew {w w' : World} {r : Option Nat} (h : w.grownBy w' r) : w.grownBy w'.drew r := ⟨h.os, h.tape, h.output, h.size, h.block⟩
theorem grown_drewN {w w' : World} {r : Option Nat} (h : w.grownBy w' r) (n : Nat) : w.grownBy (w'.drewN n) r := ⟨h.os, h.tape, h.output, h.size, h.block⟩

/-- Ints, strings and bools lead nowhere. -/
theorem int_free {w : World} {D D' : Nat → Prop} : ∀ x cs, tInt.rep w D cs x → tInt.rep w D' cs x := fun _ _ h => h
theorem str_free {w : World} {D D' : Nat → Prop} : ∀ x cs, tStr.rep w D cs x → tStr.rep w D' cs x := fun _ _ h => h

section
variable {P : Program} {α : Type} {T : Ty α} {e t : TypeId} {w : World} {base : Nat} {v : Value} {xs ys : List α} {i : TypeInfo} {z : Value} {bytes : Nat}

/-- append at the operation: a slice that reads as ys. -/
theorem wpList_app_sl {ops : Array Oper} {rest : List Oper} {o : Oper} {a : Act} {Q : Exit → Act → World → Prop} (hgd : o.guard = none) (s x : Operand)
    (ho : o.op = .call { callee := .builtin .append, args := #[s, x], argTypes := #[t, t] }) (ht : P.underlying t = some (.slice e)) (hi : P.info? e = some i) (hz : i.zero = some z)
    (hsize : i.size = T.size) (hby : i.bytes = bytes) (hzs : z.cells.size = T.size) (hs : a.eval s = v) (h : Acc T e w base v xs) {D : Nat → Prop} {A : Option Addr} {m c : Nat} (hx : a.eval x = .slice A m c) (hy : Sl T w D (.slice A m c) ys)
    (hD : ∀ x cs, T.rep w D cs x → T.rep w (fun b => base ≤ b ∧ some b ≠ v.ownBlock) cs x)
    (h63 : xs.length + ys.length ≤ maxLen) (hbytes : (xs.length + ys.length) * bytes ≤ 140737488355328) (hbase : base ≤ w.heap.size)
    (next : ∀ v' w', Acc T e w' base v' (xs ++ ys) → w.grownBy w' v.ownBlock → (v'.ownBlock = v.ownBlock ∨ v'.ownBlock = some w.heap.size) → wpList P ops Q rest (a.put o.dst v') w') : wpList P ops Q (o :: rest) a w := by
  refine wpList_plain hgd fun K hK => ?_
  obtain ⟨v', w', hr, h2, h3, h4⟩ := h.run_sl (P := P) t o.type i z bytes ht hi hz hsize hby hzs hy hD h63 hbytes hbase
  unfold Oper.wp execOp
  simp only [ho, resolve, invoke, builtin, Sem.run_bind, Sem.run_pure, Result.andThen_ok, List.map_toArray, List.map_cons, List.map_nil, hs, hx, hr]
  exact hK _ _ (next v' w' h2 h3 h4)

/-- append of one element, whose cells lie in the block that was just made. -/
theorem wpList_app_one {ops : Array Oper} {rest : List Oper} {o : Oper} {a : Act} {Q : Exit → Act → World → Prop} (hgd : o.guard = none) (s x : Operand)
    (ho : o.op = .call { callee := .builtin .append, args := #[s, x], argTypes := #[t, t] }) (ht : P.underlying t = some (.slice e)) (hi : P.info? e = some i) (hz : i.zero = some z)
    (hsize : i.size = T.size) (hby : i.bytes = bytes) (hzs : z.cells.size = T.size) (hs : a.eval s = v) (h : Acc T e w base v xs) {g c : Nat} {cs : Array Value} {ce : TypeId} (hx : a.eval x = .slice (some ⟨g, 0, none⟩) 1 c)
    (hg : w.heap[g]? = some (.cells cs ce (0, 0))) {y : α} (hy : T.rep w (fun b => base ≤ b ∧ some b ≠ v.ownBlock) cs.toList y)
    (h63 : xs.length + 1 ≤ maxLen) (hbytes : (xs.length + 1) * bytes ≤ 140737488355328) (hbase : base ≤ w.heap.size)
    (next : ∀ v' w', Acc T e w' base v' (xs ++ [y]) → w.grownBy w' v.ownBlock → (v'.ownBlock = v.ownBlock ∨ v'.ownBlock = some w.heap.size) → wpList P ops Q rest (a.put o.dst v') w') : wpList P ops Q (o :: rest) a w := by
  refine wpList_plain hgd fun K hK => ?_
  obtain ⟨v', w', hr, h2, h3, h4⟩ := h.run (P := P) (ys := [y]) t o.type i z bytes ht hi hz hsize hby hzs ⟨g, 0, none⟩ c [cs.toList] rfl
    (fun j u hj => by
      simp only [List.flatten_cons, List.flatten_nil, List.append_nil] at hj
      have ea : (⟨g, 0, none⟩ : Addr).add j = ⟨g, j, none⟩ := by
        unfold Addr.add; split
        · rename_i h0; rw [h0]
        · simp
      rw [ea, cell_of_row w g j cs ce (0, 0) hg]
      simpa using hj)
    (fun j x cs' hj hc => by
      cases j with
      | zero => simp at hj hc; subst hj; subst hc; exact hy
      | succ j => simp at hj)
    h63 hbytes hbase
  unfold Oper.wp execOp
  simp only [ho, resolve, invoke, builtin, Sem.run_bind, Sem.run_pure, Result.andThen_ok, List.map_toArray, List.map_cons, List.map_nil, hs, hx]
  rw [show (Builtin.append_ #[t, t] o.type #[v, .slice (some ⟨g, 0, none⟩) 1 c]).run P w = .ok v' w' from hr]
  exact hK _ _ (next v' w' h2 h3 h4)
/-- append at a step of a region that draws its order: a slice that reads as ys. -/
theorem step_app_sl {ops : Array Oper} {o : Oper} {a : Act} {K : Act → World → Prop} {Q : Exit → Act → World → Prop} {E : Prop} (hgd : o.guard = none) (s x : Operand)
    (ho : o.op = .call { callee := .builtin .append, args := #[s, x], argTypes := #[t, t] }) (ht : P.underlying t = some (.slice e)) (hi : P.info? e = some i) (hz : i.zero = some z)
    (hsize : i.size = T.size) (hby : i.bytes = bytes) (hzs : z.cells.size = T.size) (hs : a.eval s = v) (h : Acc T e w base v xs) {D : Nat → Prop} {A : Option Addr} {m c : Nat} (hx : a.eval x = .slice A m c) (hy : Sl T w D (.slice A m c) ys)
    (hD : ∀ x cs, T.rep w D cs x → T.rep w (fun b => base ≤ b ∧ some b ≠ v.ownBlock) cs x)
    (h63 : xs.length + ys.length ≤ maxLen) (hbytes : (xs.length + ys.length) * bytes ≤ 140737488355328) (hbase : base ≤ w.heap.size)
    (next : ∀ v' w', Acc T e w' base v' (xs ++ ys) → w.grownBy w' v.ownBlock → (v'.ownBlock = v.ownBlock ∨ v'.ownBlock = some w.heap.size) → K (a.put o.dst v') w') : if Region.wanted o (yielded ops a.tmps) = true then Oper.wp P o a w K Q else E := by
  rw [if_pos (by simp [Region.wanted, hgd])]
  obtain ⟨v', w', hr, h2, h3, h4⟩ := h.run_sl (P := P) t o.type i z bytes ht hi hz hsize hby hzs hy hD h63 hbytes hbase
  unfold Oper.wp execOp
  simp only [ho, resolve, invoke, builtin, Sem.run_bind, Sem.run_pure, Result.andThen_ok, List.map_toArray, List.map_cons, List.map_nil, hs, hx, hr]
  exact next v' w' h2 h3 h4

/-- The like: append of one element, whose cells lie in the block that was just made. -/
theorem step_app_one {ops : Array Oper} {o : Oper} {a : Act} {K : Act → World → Prop} {Q : Exit → Act → World → Prop} {E : Prop} (hgd : o.guard = none) (s x : Operand)
    (ho : o.op = .call { callee := .builtin .append, args := #[s, x], argTypes := #[t, t] }) (ht : P.underlying t = some (.slice e)) (hi : P.info? e = some i) (hz : i.zero = some z)
    (hsize : i.size = T.size) (hby : i.bytes = bytes) (hzs : z.cells.size = T.size) (hs : a.eval s = v) (h : Acc T e w base v xs) {g c : Nat} {cs : Array Value} {ce : TypeId} (hx : a.eval x = .slice (some ⟨g, 0, none⟩) 1 c)
    (hg : w.heap[g]? = some (.cells cs ce (0, 0))) {y : α} (hy : T.rep w (fun b => base ≤ b ∧ some b ≠ v.ownBlock) cs.toList y)
    (h63 : xs.length + 1 ≤ maxLen) (hbytes : (xs.length + 1) * bytes ≤ 140737488355328) (hbase : base ≤ w.heap.size)
    (next : ∀ v' w', Acc T e w' base v' (xs ++ [y]) → w.grownBy w' v.ownBlock → (v'.ownBlock = v.ownBlock ∨ v'.ownBlock = some w.heap.size) → K (a.put o.dst v') w') : if Region.wanted o (yielded ops a.tmps) = true then Oper.wp P o a w K Q else E := by
  rw [if_pos (by simp [Region.wanted, hgd])]
  obtain ⟨v', w', hr, h2, h3, h4⟩ := h.run (P := P) (ys := [y]) t o.type i z bytes ht hi hz hsize hby hzs ⟨g, 0, none⟩ c [cs.toList] rfl
    (fun j u hj => by
      simp only [List.flatten_cons, List.flatten_nil, List.append_nil] at hj
      have ea : (⟨g, 0, none⟩ : Addr).add j = ⟨g, j, none⟩ := by
        unfold Addr.add; split
        · rename_i h0; rw [h0]
        · simp
      rw [ea, cell_of_row w g j cs ce (0, 0) hg]
      simpa using hj)
    (fun j x cs' hj hc => by
      cases j with
      | zero => simp at hj hc; subst hj; subst hc; exact hy
      | succ j => simp at hj)
    h63 hbytes hbase
  unfold Oper.wp execOp
  simp only [ho, resolve, invoke, builtin, Sem.run_bind, Sem.run_pure, Result.andThen_ok, List.map_toArray, List.map_cons, List.map_nil, hs, hx]
  rw [show (Builtin.append_ #[t, t] o.type #[v, .slice (some ⟨g, 0, none⟩) 1 c]).run P w = .ok v' w' from hr]
  exact next v' w' h2 h3 h4
end

theorem Acc.weak {α : Type} {T : Ty α} {e : TypeId} {w : World} {base base' : Nat} {v : Value} {xs : List α} (h : Acc T e w base v xs) (hb : base' ≤ base) : Acc T e w base' v xs := by
  obtain ⟨css, h1, h2, h3⟩ := h
  refine ⟨css, ⟨h1.1, ?_⟩, h2, fun j x cs hj hc => T.keep (h3 j x cs hj hc) fun b hb' => ⟨⟨Nat.le_trans hb hb'.1, hb'.2⟩, rfl⟩⟩
  rcases h1.2 with h | ⟨g, cap, cur, e1, e2, e3⟩
  · exact .inl h
  · exact .inr ⟨g, cap, cur, e1, Nat.le_trans hb e2, e3⟩
/-- A function hands back a slice in new memory, which its caller may append to. -/
def FrA {α : Type} (T : Ty α) (t : TypeId) (w : World) (xs : List α) (e : Ending) (w' : World) : Prop := ∃ u, e = .returned u ∧ Bw w w' ∧ Acc T t w' w.heap.size u xs

/-- What a literal of one element gives. -/
theorem Acc.lit1 {α : Type} {T : Ty α} {e : TypeId} {w : World} {base g : Nat} {u : Value} {y : α} (hT : T.size = 1) (hb : base ≤ g) (hg : w.heap[g]? = some (.cells #[u] e (0, 0))) (hy : T.rep w (fun b => base ≤ b ∧ some b ≠ some g) [u] y) :
    Acc T e w base (.slice (some ⟨g, 0, none⟩) 1 1) [y] :=
  ⟨[[u]], ⟨by simp [hT], .inr ⟨g, 1, #[u], rfl, hb, hg, Nat.le_refl _, by simp [maxLen], by simp [hT], by simp [hT]⟩⟩, rfl, fun j x cs h1 h2 => by
    cases j with
    | zero => simp at h1 h2; subst h1; subst h2; exact hy
    | succ j => simp at h1⟩

/-- What a literal of ints reads as. -/
theorem sl_lit {w : World} {D : Nat → Prop} {g : Nat} {xs : List Int} {e : TypeId} {fz : Nat × Nat} (hg : w.heap[g]? = some (.cells (xs.map (Value.int .i64)).toArray e fz)) (hD : D g) (hl : xs.length ≤ maxLen)
    (hr : ∀ y ∈ xs, -9223372036854775808 ≤ y ∧ y ≤ 9223372036854775807) : Sl tInt w D (.slice (some ⟨g, 0, none⟩) xs.length xs.length) xs :=
  ⟨_, _, rfl, Nat.le_refl _, hl, .inr ⟨g, 0, rfl, hD, fun j x hj => ⟨[.int .i64 x], ⟨rfl, hr x (List.mem_of_getElem? hj)⟩, fun i u hi => by
    cases i with
    | zero =>
      simp at hi; subst hi
      have := cell_of_row w g j (xs.map (Value.int .i64)).toArray e fz hg
      rw [show (0 + j * tInt.size + 0) = j by simp [tInt]]
      rw [this]
      simp [hj]
    | succ i => simp at hi⟩⟩⟩
end Go.Proofs.YtonadloonidmjaaDoor

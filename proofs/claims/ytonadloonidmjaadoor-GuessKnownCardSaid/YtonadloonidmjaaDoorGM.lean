/- The contract of Learn. Conditions: the library's two tables stand in the world. -/
import Derived.Test.YtonadloonidmjaaDoorGN
import Derived.Test.YtonadloonidmjaaDoorGU
import Derived.Test.YtonadloonidmjaaDoorGJ
namespace Go.Proofs.YtonadloonidmjaaDoor
open Go.RowKit
open Pl

section
variable {P : Program} {a : Act} {o : Oper} {w : World} {ptr v m k : Value} {t : TypeId} {x y : Operand} {c : Bool}
theorem y_load (ho : o.op = .load t x) (hx : a.eval x = ptr) (h : (Instr.loadAt t ptr).run P w = .ok v w) : (execOp a.eval o).run P w = .ok (.value v) w := by
  unfold execOp
  simp only [ho, hx, Sem.run_bind, h, Result.andThen_ok, Sem.run_pure]
theorem y_lookup (ho : o.op = .lookup t x y c) (hx : a.eval x = m) (hy : a.eval y = k) (h : (Instr.lookup t m k c).run P w = .ok v w) : (execOp a.eval o).run P w = .ok (.value v) w := by
  unfold execOp
  simp only [ho, hx, hy, Sem.run_bind, h, Result.andThen_ok, Sem.run_pure]
end
theorem y_slice25 {a : Act} {o : Oper} {w : World} {vx vl v : Value} (x l : Operand) (ho : o.op = .slice 25 x (some l) none none) (hx : a.eval x = vx) (hl : a.eval l = vl) (h : (Instr.slice 25 vx (some vl) none none).run Tryd.prog w = .ok v w) : (execOp a.eval o).run Tryd.prog w = .ok (.value v) w := by
  have h2 : (Instr.sliceAt 25 vx (some vl) none none).run Tryd.prog w = .ok v w := by
    rw [← h]; simp [Instr.sliceAt, run_underlying Tryd.underlying25]
  unfold execOp
  simp only [ho, Option.map_some, Option.map_none, hx, hl, Sem.run_bind, h2, Result.andThen_ok, Sem.run_pure]
theorem step_lookup {P : Program} {a : Act} {o : Oper} {w : World} {v m k : Value} {t : TypeId} {c : Bool} {ops : Array Oper} {K : Act → World → Prop} {Q : Exit → Act → World → Prop} {E : Prop} (hgd : o.guard = none) (x y : Operand) (ho : o.op = .lookup t x y c) (hx : a.eval x = m) (hy : a.eval y = k)
    (hr : (Instr.lookup t m k c).run P w = .ok v w) (next : K (a.put o.dst v) w) : if Region.wanted o (yielded ops a.tmps) = true then Oper.wp P o a w K Q else E := by
  rw [if_pos (by simp [Region.wanted, hgd])]
  unfold Oper.wp execOp
  simp only [ho, hx, hy, Sem.run_bind, hr, Result.andThen_ok, Sem.run_pure]
  exact next
theorem grown_size {w w' : World} {g : Nat} (h : w.grownBy w' (some g)) {k : Nat} (hk : k < w.heap.size) (hn : k ≠ g) : w'.heap[k]? = w.heap[k]? := h.block k hk fun e => hn (by injection e)
def lenV : Value → Nat
  | .slice _ n _ => n
  | _ => 0
theorem perm_seen {m : List En} {seen : List Nat} (hn : seen.Nodup) (hl : ∀ i ∈ seen, i < m.length) (ha : ∀ i, i < m.length → i ∈ seen) : (seen.map fun i => m.getD i e0).Perm m := by
  have h1 : seen.Perm (List.range m.length) := (List.perm_ext_iff_of_nodup hn List.nodup_range).2 fun i => by
    rw [List.mem_range]; exact ⟨hl i, ha i⟩
  have h2 := h1.map fun i => m.getD i e0
  rwa [getD_range] at h2
def LearnR (l : List Kn) (most : Int) (w : World) (e : Ending) (w' : World) : Prop := ∃ v, e = .returned (.tuple #[v, .int .i64 (learnP l most).2]) ∧ Bw w w' ∧ Sl tEn w' (Hi w.heap.size) v (learnP l most).1
theorem ok_key {n : Nat} {y : Kn} (hr : ∀ z ∈ y.1, inI64 z) (hs : y.2.size ≤ maxLen) (hn : n ≤ 40) : KyOk (y.1.drop (y.1.length - n), y.2) := by
  refine ⟨?_, fun z hz => hr z (List.mem_of_mem_drop hz), hs⟩
  rw [List.length_drop]; omega
theorem sl_range {w : World} {D : Nat → Prop} {v : Value} {xs : List Int} (h : Sl tInt w D v xs) : ∀ z ∈ xs, inI64 z := fun z hz => by
  obtain ⟨j, hj⟩ := List.mem_iff_getElem?.1 hz
  obtain ⟨_, _, _, _, _, _, h1, _⟩ := h.cells hj
  exact h1.2
set_option linter.unusedSimpArgs false in
set_option maxRecDepth 100000 in
set_option maxHeartbeats 16000000 in
theorem learn_any {v : Value} {l : List Kn} {most : Int} {w : World} (hT : Tb w) (h : Rd tKn w v l) :
    Calls Tryd.prog 10 #[v, .int .i64 most] w (LearnR l most w) := by
  have hm := h.len_le
  have hmm := @run_makeMap Tryd.prog
  obtain ⟨i0, hi, hz0, hz1, hz2⟩ := info_parts infoE
  obtain ⟨A, c, rfl, _, _⟩ := h.form
  by_cases a1 : l.length ≤ 3000
  rotate_left
  · have hR : Hid (learnP l most = ([], 1)) := by show _ = _; unfold learnP argB; rw [decide_eq_false a1]; rfl
    have z1 : (3000 : Int) < l.length := by omega
    go_enter Tryd.func10, Tryd.ntmps10
    go_wp2_with fail
    go_ret2
    exact ⟨.slice none 0 0, by rw [hR.out]; rfl, Below.refl _ _, by rw [hR.out]; exact Sl.nil⟩
  have z1 : ¬ (3000 : Int) < l.length := by omega
  by_cases a2 : 0 ≤ most
  rotate_left
  · have hR : Hid (learnP l most = ([], 1)) := by show _ = _; unfold learnP argB; rw [decide_eq_false a2, Bool.false_and, Bool.and_false]; rfl
    have z2 : most < 0 := by omega
    go_enter Tryd.func10, Tryd.ntmps10
    go_wp2_with fail
    go_ret2
    exact ⟨.slice none 0 0, by rw [hR.out]; rfl, Below.refl _ _, by rw [hR.out]; exact Sl.nil⟩
  have z2 : ¬ most < 0 := by omega
  by_cases a3 : most ≤ 40
  rotate_left
  · have hR : Hid (learnP l most = ([], 1)) := by show _ = _; unfold learnP argB; rw [decide_eq_false a3, Bool.false_and, Bool.and_false, Bool.and_false]; rfl
    have z3 : (40 : Int) < most := by omega
    go_enter Tryd.func10, Tryd.ntmps10
    go_wp2_with fail
    go_ret2
    exact ⟨.slice none 0 0, by rw [hR.out]; rfl, Below.refl _ _, by rw [hR.out]; exact Sl.nil⟩
  cases a4 : knownB l
  · have hR : Hid (learnP l most = ([], 1)) := by show _ = _; unfold learnP argB; rw [a4, Bool.and_false, Bool.and_false, Bool.and_false]; rfl
    have z3 : ¬ (40 : Int) < most := by omega
    go_enter Tryd.func10, Tryd.ntmps10
    go_wp2_with (go_at_call 21; (with_reducible refine (val_of (congrArg Value.bool a4) (known_any hT h)).mono ?_); rintro e w1 ⟨rfl, hb1⟩)
    go_ret2
    exact ⟨.slice none 0 0, by rw [hR.out]; rfl, hb1, by rw [hR.out]; exact Sl.nil⟩
  have hA4 : argB l most = true := by unfold argB; rw [a4, decide_eq_true a1, decide_eq_true a2, decide_eq_true a3]; rfl
  obtain ⟨M, rfl⟩ : ∃ M : Nat, most = (M : Int) := ⟨most.toNat, by omega⟩
  have hR : Hid (learnP l (M : Int) = if (learnE (evs l M)).length ≤ 30000 then (learnE (evs l M), 0) else ([], 2)) := by show _ = _; unfold learnP; rw [hA4, if_pos rfl, Int.toNat_natCast]
  have z3 : ¬ (40 : Int) < (M : Int) := by omega
  have hM40 : M ≤ 40 := by omega
  go_enter Tryd.func10, Tryd.ntmps10
  go_wp2_with (go_at_call 21; (with_reducible refine (val_of (congrArg Value.bool a4) (known_any hT h)).mono ?_); rintro e w1 ⟨rfl, hb1⟩)
  have hsz1 := hb1.size
  have hb2 : Bw w (w1.alloc (.map #[] 0)) := bw_al hb1 _
  have hM0 : Mp Tryd.prog 49 (w1.alloc (.map #[] 0)) w1.heap.size (entL []) := Mp.made _ _ _
  obtain ⟨b, hb⟩ : ∃ b, b = w1.heap.size := ⟨_, rfl⟩
  rw [← hb] at hM0
  simp only [← hb]
  have hbw : w.heap.size ≤ b := by omega
  clear hb
  go_loopw [32] (fun i wr => ∃ k : Nat, k ≤ l.length ∧ i = .int .i64 k ∧ Bw w wr ∧ ∃ m, Mp Tryd.prog 49 wr b (entL m) ∧ Cn (evs (l.take k) M) m ∧ KsOk m) (fun i _ => l.length - (intOf i).toNat)
  case atStart => exact ⟨0, Nat.zero_le _, rfl, hb2, [], hM0, cn_nil, fun e he => by simp at he⟩
  case round =>
    obtain ⟨k, hk, rfl, hd, m, hM, hC, hKO⟩ := hrel
    by_cases hlt : k < l.length
    · obtain ⟨bb, off, y, u1, rfl, hy, hys, hu, e0, e1⟩ := h.kn hlt
      have e0 := bw_cell hd e0
      have e1 := bw_cell hd e1
      have hyr := sl_range hu
      obtain ⟨A1, c1, rfl, hc1, hc2⟩ := hu.form
      have hu := hu.rd
      have hsz0 := hd.size
      have hul := hu.len_le
      go_wp2_with fail
      have hMb := hM.lt
      have rowK : (wr.alloc (.cells #[.slice A1 y.1.length c1, .string y.2] 27)).heap[wr.heap.size]? = some (.cells #[.slice A1 y.1.length c1, .string y.2] 27 (0, 0)) := at_new rfl
      have hM2 := hM.alloc (.cells #[.slice A1 y.1.length c1, .string y.2] 27)
      have hd2 : Bw w (wr.alloc (.cells #[.slice A1 y.1.length c1, .string y.2] 27)) := bw_al hd _
      obtain ⟨q, hq⟩ : ∃ q, q = wr.heap.size := ⟨_, rfl⟩
      rw [← hq] at rowK
      simp only [← hq]
      have hqb : q ≠ b := by omega
      have hqw : w.heap.size ≤ q := by omega
      clear hq e0 e1 hM hd
      go_loopw [9] (fun i wq => ∃ n : Nat, n ≤ min M y.1.length + 1 ∧ i = .int .i64 n ∧ Bw w wq ∧ wq.heap[q]? = some (.cells #[.slice A1 y.1.length c1, .string y.2] 27 (0, 0)) ∧ ∃ m, Mp Tryd.prog 49 wq b (entL m) ∧ Cn (evs (l.take k) M ++ evPre y n) m ∧ KsOk m) (fun i _ => min M y.1.length + 1 - (intOf i).toNat)
      case atStart => exact ⟨0, Nat.zero_le _, rfl, hd2, rowK, m, hM2, by rw [evPre_zero, List.append_nil]; exact hC, hKO⟩
      case round =>
        obtain ⟨n, hn, rfl, hdq, rowQ, m, hM, hC, hKO⟩ := hrel
        by_cases hlt2 : n ≤ M ∧ n ≤ y.1.length
        · obtain ⟨n1, n2⟩ := hlt2
          have d0 := row2_0 rowQ
          have d1 := row2_1 rowQ
          have z4 : (n : Int) ≤ (M : Int) := by omega
          have z5 : (n : Int) ≤ (y.1.length : Int) := by omega
          have hMb2 := hM.lt
          have hqlt : q < wr.heap.size := (Array.getElem?_eq_some_iff.1 rowQ).1
          go_wp2_with (first | (refine wpList_build49 rfl _ _ rfl rfl rfl ?_) | (refine wpList_box49 rfl rfl rfl _ _ rfl (lit0_len _ _) lit0_one rfl rfl ?_))
          try simp only [Act.put, List.setIfInBounds_toArray, List.set_cons_zero, List.set_cons_succ]
          obtain ⟨r, hr⟩ : ∃ r, r = y.1.length - n := ⟨_, rfl⟩
          have hr' : (y.1.length : Int) - (n : Int) = (r : Int) := by omega
          have hwr : IntKind.i64.wrap (r : Int) = (r : Int) := by simp [IntKind.wrap, IntKind.bits, IntKind.signed]; omega
          obtain ⟨B, mB, dB, hct, hcl⟩ := tail_ints (A := A1) (c := c1) (xs := y.1) (k := r) (by omega) hul
          have hyl : (y.1.drop r).length = n := by rw [List.length_drop]; omega
          have hr2 : IntKind.i64.wrap ((y.1.length - n : Nat) : Int) = (r : Int) := by rw [← hr]; exact hwr
          have hr := Lib.hid hr
          obtain ⟨W3, hW3⟩ : ∃ W3, W3 = wr.alloc (.cells (lit0 n y.2).toArray 49) := ⟨_, rfl⟩
          have rowG : W3.heap[wr.heap.size]? = some (.cells (lit0 n y.2).toArray 49 (0, 0)) := by rw [hW3]; exact at_new rfl
          have rowQ3 : W3.heap[q]? = some (.cells #[.slice A1 y.1.length c1, .string y.2] 27 (0, 0)) := by rw [hW3]; exact at_old rowQ
          have hM3 : Mp Tryd.prog 49 W3 b (entL m) := by rw [hW3]; exact hM.alloc _
          have hd3 : Bw w W3 := by rw [hW3]; exact bw_al hdq _
          have hs3 : W3.heap.size = wr.heap.size + 1 := by rw [hW3]; exact sz_alloc _ _
          obtain ⟨g, hg⟩ : ∃ g, g = wr.heap.size := ⟨_, rfl⟩
          simp only [← hW3, ← hg]
          rw [← hg] at rowG hs3 hMb2 hqlt
          have hgq : q ≠ g := by omega
          have hgb : b ≠ g := by omega
          have hsq := hdq.size
          have hgw : w.heap.size ≤ g := by omega
          clear hW3 hM hdq rowQ d0 d1 hg hsq
          have d3 := row2_0 (w := W3.drew) rowQ3
          obtain ⟨vc, W4, hrc, rowG4, hg4, hs4⟩ := copy_key (w := W3.drew) (g := g) (A := B) (m := mB) (c := dB) (ys := y.1.drop r) (t := y.2) (ty := 3) (by rw [hyl]; exact rowG) (hcl W3.drew _ ((hu.after hd3).drew)) (by rw [hyl]; omega)
          have hs4 : W4.heap.size = g + 1 := hs4.trans hs3
          have rowQ4 : W4.heap[q]? = some (.cells #[.slice A1 y.1.length c1, .string y.2] 27 (0, 0)) := (grown_size hg4 (show q < W3.heap.size by omega) hgq).trans rowQ3
          have d4 := row2_0 rowQ4
          have hM4 : Mp Tryd.prog 49 W4.drew b (entL m) := (hM3.keep (w' := W3.drew) rfl).grown hg4 (fun e => hgb (by injection e)) |>.keep rfl
          have hd4 : Bw w W4 := bw_grown (Bw.drew hd3) hg4 hgw
          clear hM3 hd3
          refine wp_region_held_drew (S := fun u => u.cell? ⟨q, 0, none⟩ = some (.slice A1 y.1.length c1)) (by kernel_rfl) ?_ (fun hHeld => ?_)
          · exact d3
          refine wpAnyH_take (i := 0) (oi := { dst := some 52, op := Go.Op.fieldAddr 49 (Go.Operand.tmp 10) 1, type := 0, pos := "guess.go:49", after := #[], guard := none }) (v := ?v1) rfl (by kernel_rfl) (by kernel_rfl) (by kernel_rfl) (fun _ _ _ h => h) (Or.inl ⟨by rfl, ?hy1⟩) (by assumption) ?_
          case hy1 => (intro w hSw; (try dsimp only at hSw); go_simp; try with_reducible rfl)
          try simp only [Act.put, List.setIfInBounds_toArray, List.set_cons_zero, List.set_cons_succ]
          refine wpAnyH_take (i := 1) (oi := { dst := some 53, op := Go.Op.slice 47 (Go.Operand.tmp 52) none none none, type := 25, pos := "guess.go:49", after := #[{ on := 0, ground := Go.Ground.data }], guard := none }) (v := ?v2) rfl (by kernel_rfl) (by kernel_rfl) (by kernel_rfl) (fun _ _ _ h => h) (Or.inl ⟨by rfl, ?hy2⟩) (by assumption) ?_
          case hy2 => (intro w hSw; (try dsimp only at hSw); go_simp; try with_reducible rfl)
          try simp only [Act.put, List.setIfInBounds_toArray, List.set_cons_zero, List.set_cons_succ]
          refine wpAnyH_take (i := 2) (oi := { dst := some 54, op := Go.Op.fieldAddr 27 (Go.Operand.tmp 8) 0, type := 0, pos := "guess.go:49", after := #[], guard := none }) (v := ?v3) rfl (by kernel_rfl) (by kernel_rfl) (by kernel_rfl) (fun _ _ _ h => h) (Or.inl ⟨by rfl, ?hy3⟩) (by assumption) ?_
          case hy3 => (intro w hSw; (try dsimp only at hSw); go_simp; try with_reducible rfl)
          try simp only [Act.put, List.setIfInBounds_toArray, List.set_cons_zero, List.set_cons_succ]
          refine wpAnyH_take (i := 3) (oi := { dst := some 55, op := Go.Op.load 25 (Go.Operand.tmp 54), type := 25, pos := "guess.go:49", after := #[{ on := 2, ground := Go.Ground.data }], guard := none }) (v := ?v4) rfl (by kernel_rfl) (by kernel_rfl) (by kernel_rfl) (fun _ _ _ h => h) (Or.inl ⟨by rfl, ?hy4⟩) (by assumption) ?_
          case hy4 => (intro w hSw; (try dsimp only at hSw); go_simp; try with_reducible rfl)
          try simp only [Act.put, List.setIfInBounds_toArray, List.set_cons_zero, List.set_cons_succ]
          refine wpAnyH_take (i := 4) (oi := { dst := some 56, op := Go.Op.fieldAddr 27 (Go.Operand.tmp 8) 0, type := 0, pos := "guess.go:49", after := #[], guard := none }) (v := ?v5) rfl (by kernel_rfl) (by kernel_rfl) (by kernel_rfl) (fun _ _ _ h => h) (Or.inl ⟨by rfl, ?hy5⟩) (by assumption) ?_
          case hy5 => (intro w hSw; (try dsimp only at hSw); go_simp; try with_reducible rfl)
          try simp only [Act.put, List.setIfInBounds_toArray, List.set_cons_zero, List.set_cons_succ]
          refine wpAnyH_take (i := 5) (oi := { dst := some 57, op := Go.Op.load 25 (Go.Operand.tmp 56), type := 25, pos := "guess.go:49", after := #[{ on := 4, ground := Go.Ground.data }], guard := none }) (v := ?v6) rfl (by kernel_rfl) (by kernel_rfl) (by kernel_rfl) (fun _ _ _ h => h) (Or.inl ⟨by rfl, ?hy6⟩) (by assumption) ?_
          case hy6 => (intro w hSw; (try dsimp only at hSw); go_simp; try with_reducible rfl)
          try simp only [Act.put, List.setIfInBounds_toArray, List.set_cons_zero, List.set_cons_succ]
          refine wpAnyH_take (i := 6) (oi := { dst := some 58, op := Go.Op.call { callee := Go.Callee.builtin Go.Builtin.len, args := #[Go.Operand.tmp 57], argTypes := #[25] }, type := 3, pos := "guess.go:49", after := #[{ on := 5, ground := Go.Ground.data }], guard := none }) (v := ?v7) rfl (by kernel_rfl) (by kernel_rfl) (by kernel_rfl) (fun _ _ _ h => h) (Or.inl ⟨by rfl, ?hy7⟩) (by assumption) ?_
          case hy7 => (intro w hSw; (try dsimp only at hSw); go_simp; try with_reducible rfl)
          try simp only [Act.put, List.setIfInBounds_toArray, List.set_cons_zero, List.set_cons_succ]
          refine wpAnyH_take (i := 7) (oi := { dst := some 59, op := Go.Op.move (Go.Operand.tmp 9), type := 3, pos := "guess.go:49", after := #[], guard := none }) (v := ?v8) rfl (by kernel_rfl) (by kernel_rfl) (by kernel_rfl) (fun _ _ _ h => h) (Or.inl ⟨by rfl, ?hy8⟩) (by assumption) ?_
          case hy8 => (intro w hSw; (try dsimp only at hSw); go_simp; try with_reducible rfl)
          try simp only [Act.put, List.setIfInBounds_toArray, List.set_cons_zero, List.set_cons_succ]
          refine wpAnyH_take (i := 8) (oi := { dst := some 60, op := Go.Op.binOp Go.BinOp.sub 3 (Go.Operand.tmp 58) (Go.Operand.tmp 59) 3, type := 3, pos := "guess.go:49", after := #[{ on := 6, ground := Go.Ground.data }, { on := 7, ground := Go.Ground.data }], guard := none }) (v := Value.int .i64 (r : Int)) rfl (by kernel_rfl) (by kernel_rfl) (by kernel_rfl) (fun _ _ _ h => h) (Or.inl ⟨by rfl, ?hy9⟩) (by assumption) ?_
          case hy9 => (intro w hSw; (try dsimp only at hSw); go_simp)
          try simp only [Act.put, List.setIfInBounds_toArray, List.set_cons_zero, List.set_cons_succ]
          refine wpAnyH_take (i := 9) (oi := { dst := some 61, op := Go.Op.slice 25 (Go.Operand.tmp 55) (some (Go.Operand.tmp 60)) none none, type := 25, pos := "guess.go:49", after := #[{ on := 3, ground := Go.Ground.data }, { on := 8, ground := Go.Ground.data }], guard := none }) (v := Value.slice B mB dB) rfl (by kernel_rfl) (by kernel_rfl) (by kernel_rfl) (fun _ _ _ h => h) (Or.inl ⟨by rfl, ?hy10⟩) (by assumption) ?_
          case hy10 => (intro w hSw; exact y_slice25 _ _ rfl rfl rfl (hct w))
          try simp only [Act.put, List.setIfInBounds_toArray, List.set_cons_zero, List.set_cons_succ]
          refine wpAnyH_ready (rs := [10]) (by kernel_rfl) (by simp) ?_
          refine (AllReadyH.cons (i := 10) (o := { dst := some 62, op := Go.Op.call { callee := Go.Callee.builtin Go.Builtin.copy, args := #[Go.Operand.tmp 53, Go.Operand.tmp 61], argTypes := #[25, 25] }, type := 3, pos := "guess.go:49", after := #[{ on := 1, ground := Go.Ground.data }, { on := 9, ground := Go.Ground.data }], guard := none }) rfl (fun K' hK' => ?_) AllReadyH.nil)
          refine step_copy rfl _ _ rfl hrc ?_
          refine hK'.out _ _ ?_ (fun hHeld => ?_)
          · exact d4
          clear hK' K'
          try simp only [Act.put, List.setIfInBounds_toArray, List.set_cons_zero, List.set_cons_succ]
          refine wpAnyH_done (by kernel_rfl) ?_ _
          go_wp2_with fail
          obtain ⟨x, hx⟩ : ∃ x : Ky, x = (y.1.drop r, y.2) := ⟨_, rfl⟩
          rw [← hx] at rowG4
          have hKx : KyOk x := by rw [hx, hr.out]; exact ok_key hyr (by simpa [maxLen] using hys) (by omega)
          obtain ⟨st, W6, ve, hme, hg6, hs6, hlk6, _, hst⟩ := half_one hM4 hC hKO hKx
          have hlk5 := look_cnt hM4 hC hKO hKx
          have hld : ∀ u : World, u.heap[g]? = some (.cells (keyL x).toArray 49 (0, 0)) → (Instr.loadAt 49 (.pointer (some ⟨g, 0, none⟩))).run Tryd.prog u = .ok (keyV x) u := fun u hu => load_key hKx.1 hu
          obtain ⟨W7, hes, hg7, hs7, m', hM7, hC7, hKO7⟩ := hst W6 rfl
          have hcb : cnt (evs (l.take k) M ++ evPre y n) x ≤ 200000 := by
            have h1 : cnt (evs (l.take k) M ++ evPre y n) x ≤ (evs (l.take k) M ++ evPre y n).length := List.countP_le_length
            have h2 := evs_len (l.take k) hM40
            have h3 : (l.take k).length ≤ k := by rw [List.length_take]; omega
            have h4 : (evPre y n).length = n := by unfold evPre; simp
            rw [List.length_append, h4] at h1
            omega
          obtain ⟨cn, hcn⟩ : ∃ cn, cn = cnt (evs (l.take k) M ++ evPre y n) x := ⟨_, rfl⟩
          rw [← hcn] at hlk5 hlk6 hes hcb
          have hwc : IntKind.i64.wrap ((cn : Int) + 1) = (cn : Int) + 1 := by simp [IntKind.wrap, IntKind.bits, IntKind.signed]; omega
          have hwc2 : wrap64 ((cn : Int) + 1) = (cn : Int) + 1 := by unfold wrap64; omega
          have hs6 : W6.heap.size = g + 1 := hs6.trans hs4
          have rowG6 : W6.heap[g]? = some (.cells (keyL x).toArray 49 (0, 0)) := (grown_size hg6 (show g < W4.heap.size by omega) (Ne.symm hgb)).trans rowG4
          have rowG7 : W7.heap[g]? = some (.cells (keyL x).toArray 49 (0, 0)) := (grown_size hg7 (show g < W6.heap.size by omega) (Ne.symm hgb)).trans rowG6
          have rowQ6 : W6.heap[q]? = some (.cells #[.slice A1 y.1.length c1, .string y.2] 27 (0, 0)) := (grown_size hg6 (show q < W4.heap.size by omega) hqb).trans rowQ4
          have rowQ7 : W7.heap[q]? = some (.cells #[.slice A1 y.1.length c1, .string y.2] 27 (0, 0)) := (grown_size hg7 (show q < W6.heap.size by omega) hqb).trans rowQ6
          have hd7 : Bw w W7 := bw_grown (bw_grown (Bw.drew hd4) hg6 hbw) hg7 hbw
          have hl5 := hld W4.drew rowG4
          have hl6 := hld W6 rowG6
          have hl7 := hld W7 rowG7
          have hEnd : ∃ n' : Nat, n' ≤ min M y.1.length + 1 ∧ n' = n + 1 ∧ Bw w W7 ∧ W7.heap[q]? = some (.cells #[.slice A1 y.1.length c1, .string y.2] 27 (0, 0)) ∧ ∃ m, Mp Tryd.prog 49 W7 b (entL m) ∧ Cn (evs (l.take k) M ++ evPre y n') m ∧ KsOk m :=
            ⟨n + 1, by omega, rfl, hd7, rowQ7, m', hM7, by rw [evPre_snoc, ← List.append_assoc, ← hr.out, ← hx]; exact hC7, hKO7⟩
          have HEnd := Lib.hid hEnd
          clear hEnd hst hM4 hM7 hC7 hKO7 hC hKO rowQ4 rowQ6 rowQ7 rowG4 rowG6 rowG7 hcn hd4 hd7
          refine wp_region_held_drew (S := fun u => (Instr.loadAt 49 (.pointer (some ⟨g, 0, none⟩))).run Tryd.prog u = .ok (keyV x) u) (by kernel_rfl) ?_ (fun hHeld => ?_)
          · exact hl5
          refine wpAnyH_take (i := 0) (oi := { dst := some 63, op := Go.Op.move (Go.Operand.tmp 6), type := 46, pos := "guess.go:50", after := #[], guard := none }) (v := ?v11) rfl (by kernel_rfl) (by kernel_rfl) (by kernel_rfl) (fun _ _ _ h => h) (Or.inl ⟨by rfl, ?hy11⟩) (by assumption) ?_
          case hy11 => (intro w hSw; (try dsimp only at hSw); go_simp; try with_reducible rfl)
          try simp only [Act.put, List.setIfInBounds_toArray, List.set_cons_zero, List.set_cons_succ]
          refine wpAnyH_take (i := 1) (oi := { dst := some 64, op := Go.Op.load 49 (Go.Operand.tmp 10), type := 49, pos := "guess.go:50", after := #[], guard := none }) (v := keyV x) rfl (by kernel_rfl) (by kernel_rfl) (by kernel_rfl) (fun _ _ _ h => h) (Or.inl ⟨by rfl, ?hy12⟩) (by assumption) ?_
          case hy12 => (intro w hSw; exact y_load rfl rfl hSw)
          try simp only [Act.put, List.setIfInBounds_toArray, List.set_cons_zero, List.set_cons_succ]
          refine wpAnyH_ready (rs := [2, 4]) (by kernel_rfl) (by simp) ?_
          refine (AllReadyH.cons (i := 2) (o := { dst := some 65, op := Go.Op.lookup 46 (Go.Operand.tmp 63) (Go.Operand.tmp 64) false, type := 3, pos := "guess.go:50", after := #[{ on := 0, ground := Go.Ground.data }, { on := 1, ground := Go.Ground.data }], guard := none }) rfl (fun K' hK' => ?_) (AllReadyH.cons (i := 4) (o := { dst := some 67, op := Go.Op.mapEntry 46 (Go.Operand.tmp 63) (Go.Operand.tmp 64), type := 0, pos := "guess.go:50", after := #[{ on := 0, ground := Go.Ground.data }, { on := 1, ground := Go.Ground.data }, { on := 0, ground := Go.Ground.phase }, { on := 1, ground := Go.Ground.phase }, { on := 2, ground := Go.Ground.textOnly Go.Departure.mapOpAssignEntry }, { on := 3, ground := Go.Ground.textOnly Go.Departure.mapOpAssignEntry }], guard := none }) rfl (fun K' hK' => ?_) AllReadyH.nil))
          · refine step_lookup rfl _ _ rfl rfl rfl hlk5 ?_
            refine hK'.out _ _ ?_ (fun hHeld => ?_)
            · exact hl5
            clear hK' K'
            try simp only [Act.put, List.setIfInBounds_toArray, List.set_cons_zero, List.set_cons_succ]
            refine wpAnyH_take (i := 3) (oi := { dst := some 66, op := Go.Op.binOp Go.BinOp.add 3 (Go.Operand.tmp 65) (Go.Operand.const (Go.Value.int Go.IntKind.i64 1)) 3, type := 3, pos := "guess.go:50", after := #[{ on := 2, ground := Go.Ground.data }], guard := none }) (v := ?v13) rfl (by kernel_rfl) (by kernel_rfl) (by kernel_rfl) (fun _ _ _ h => h) (Or.inl ⟨by rfl, ?hy13⟩) (by assumption) ?_
            case hy13 => (intro w hSw; (try dsimp only at hSw); go_simp; try with_reducible rfl)
            try simp only [Act.put, List.setIfInBounds_toArray, List.set_cons_zero, List.set_cons_succ]
            refine wpAnyH_ready (rs := [4]) (by kernel_rfl) (by simp) ?_
            refine (AllReadyH.cons (i := 4) (o := { dst := some 67, op := Go.Op.mapEntry 46 (Go.Operand.tmp 63) (Go.Operand.tmp 64), type := 0, pos := "guess.go:50", after := #[{ on := 0, ground := Go.Ground.data }, { on := 1, ground := Go.Ground.data }, { on := 0, ground := Go.Ground.phase }, { on := 1, ground := Go.Ground.phase }, { on := 2, ground := Go.Ground.textOnly Go.Departure.mapOpAssignEntry }, { on := 3, ground := Go.Ground.textOnly Go.Departure.mapOpAssignEntry }], guard := none }) rfl (fun K' hK' => ?_) AllReadyH.nil)
            refine step_mapEntry rfl _ _ rfl hme ?_
            refine hK'.out _ _ ?_ (fun hHeld => ?_)
            · exact hl6
            clear hK' K'
            try simp only [Act.put, List.setIfInBounds_toArray, List.set_cons_zero, List.set_cons_succ]
            refine wpAnyH_take (i := 5) (oi := { dst := some 68, op := Go.Op.extract (Go.Operand.tmp 67) 1, type := 3, pos := "guess.go:50", after := #[{ on := 4, ground := Go.Ground.data }], guard := none }) (v := ?v14) rfl (by kernel_rfl) (by kernel_rfl) (by kernel_rfl) (fun _ _ _ h => h) (Or.inl ⟨by rfl, ?hy14⟩) (by assumption) ?_
            case hy14 => (intro w hSw; (try dsimp only at hSw); go_simp; try with_reducible rfl)
            try simp only [Act.put, List.setIfInBounds_toArray, List.set_cons_zero, List.set_cons_succ]
            refine wpAnyH_ready (rs := [6]) (by kernel_rfl) (by simp) ?_
            refine (AllReadyH.cons (i := 6) (o := { dst := none, op := Go.Op.entryStore 46 (Go.Operand.tmp 63) (Go.Operand.tmp 68) (Go.Operand.tmp 66), type := 0, pos := "guess.go:50", after := #[{ on := 0, ground := Go.Ground.data }, { on := 5, ground := Go.Ground.data }, { on := 3, ground := Go.Ground.data }, { on := 4, ground := Go.Ground.chain }, { on := 0, ground := Go.Ground.phase }, { on := 1, ground := Go.Ground.phase }, { on := 2, ground := Go.Ground.phase }, { on := 3, ground := Go.Ground.phase }, { on := 4, ground := Go.Ground.phase }, { on := 5, ground := Go.Ground.phase }], guard := none }) rfl (fun K' hK' => ?_) AllReadyH.nil)
            refine step_entryStore rfl _ _ _ rfl hes ?_
            refine hK'.out _ _ ?_ (fun hHeld => ?_)
            · exact hl7
            clear hK' K'
            try simp only [Act.put, List.setIfInBounds_toArray, List.set_cons_zero, List.set_cons_succ]
            refine wpAnyH_done (by kernel_rfl) ?_ _
            go_wp2_with fail
            obtain ⟨n', e1, rfl, e3⟩ := HEnd.out
            exact ⟨⟨n + 1, e1, by go_num, e3⟩, by simp [intOf]; omega⟩
          · refine step_mapEntry rfl _ _ rfl hme ?_
            refine hK'.out _ _ ?_ (fun hHeld => ?_)
            · exact hl6
            clear hK' K'
            try simp only [Act.put, List.setIfInBounds_toArray, List.set_cons_zero, List.set_cons_succ]
            refine wpAnyH_take (i := 5) (oi := { dst := some 68, op := Go.Op.extract (Go.Operand.tmp 67) 1, type := 3, pos := "guess.go:50", after := #[{ on := 4, ground := Go.Ground.data }], guard := none }) (v := ?v15) rfl (by kernel_rfl) (by kernel_rfl) (by kernel_rfl) (fun _ _ _ h => h) (Or.inl ⟨by rfl, ?hy15⟩) (by assumption) ?_
            case hy15 => (intro w hSw; (try dsimp only at hSw); go_simp; try with_reducible rfl)
            try simp only [Act.put, List.setIfInBounds_toArray, List.set_cons_zero, List.set_cons_succ]
            refine wpAnyH_ready (rs := [2]) (by kernel_rfl) (by simp) ?_
            refine (AllReadyH.cons (i := 2) (o := { dst := some 65, op := Go.Op.lookup 46 (Go.Operand.tmp 63) (Go.Operand.tmp 64) false, type := 3, pos := "guess.go:50", after := #[{ on := 0, ground := Go.Ground.data }, { on := 1, ground := Go.Ground.data }], guard := none }) rfl (fun K' hK' => ?_) AllReadyH.nil)
            refine step_lookup rfl _ _ rfl rfl rfl hlk6 ?_
            refine hK'.out _ _ ?_ (fun hHeld => ?_)
            · exact hl6
            clear hK' K'
            try simp only [Act.put, List.setIfInBounds_toArray, List.set_cons_zero, List.set_cons_succ]
            refine wpAnyH_take (i := 3) (oi := { dst := some 66, op := Go.Op.binOp Go.BinOp.add 3 (Go.Operand.tmp 65) (Go.Operand.const (Go.Value.int Go.IntKind.i64 1)) 3, type := 3, pos := "guess.go:50", after := #[{ on := 2, ground := Go.Ground.data }], guard := none }) (v := ?v16) rfl (by kernel_rfl) (by kernel_rfl) (by kernel_rfl) (fun _ _ _ h => h) (Or.inl ⟨by rfl, ?hy16⟩) (by assumption) ?_
            case hy16 => (intro w hSw; (try dsimp only at hSw); go_simp; try with_reducible rfl)
            try simp only [Act.put, List.setIfInBounds_toArray, List.set_cons_zero, List.set_cons_succ]
            refine wpAnyH_ready (rs := [6]) (by kernel_rfl) (by simp) ?_
            refine (AllReadyH.cons (i := 6) (o := { dst := none, op := Go.Op.entryStore 46 (Go.Operand.tmp 63) (Go.Operand.tmp 68) (Go.Operand.tmp 66), type := 0, pos := "guess.go:50", after := #[{ on := 0, ground := Go.Ground.data }, { on := 5, ground := Go.Ground.data }, { on := 3, ground := Go.Ground.data }, { on := 4, ground := Go.Ground.chain }, { on := 0, ground := Go.Ground.phase }, { on := 1, ground := Go.Ground.phase }, { on := 2, ground := Go.Ground.phase }, { on := 3, ground := Go.Ground.phase }, { on := 4, ground := Go.Ground.phase }, { on := 5, ground := Go.Ground.phase }], guard := none }) rfl (fun K' hK' => ?_) AllReadyH.nil)
            refine step_entryStore rfl _ _ _ rfl hes ?_
            refine hK'.out _ _ ?_ (fun hHeld => ?_)
            · exact hl7
            clear hK' K'
            try simp only [Act.put, List.setIfInBounds_toArray, List.set_cons_zero, List.set_cons_succ]
            refine wpAnyH_done (by kernel_rfl) ?_ _
            go_wp2_with fail
            obtain ⟨n', e1, rfl, e3⟩ := HEnd.out
            exact ⟨⟨n + 1, e1, by go_num, e3⟩, by simp [intOf]; omega⟩
        · have hne : n = min M y.1.length + 1 := by omega
          have hCE : Cn (evs (l.take (k + 1)) M) m := by
            rw [List.take_add_one, hy.out]
            simp only [Option.toList_some]
            rw [evs_snoc, ← evPre_all hne]; exact hC
          have HEnd := Lib.hid hCE
          clear hC
          by_cases hnM : n ≤ M
          · have z4 : (n : Int) ≤ (M : Int) := by omega
            have z5 : ¬ (n : Int) ≤ (y.1.length : Int) := by omega
            have d0 := row2_0 rowQ
            go_wp2_with fail
            exact ⟨⟨k + 1, hlt, by go_num, hdq, m, hM, HEnd.out, hKO⟩, by simp [intOf]; omega⟩
          · have z4 : ¬ (n : Int) ≤ (M : Int) := by omega
            go_wp2_with fail
            exact ⟨⟨k + 1, hlt, by go_num, hdq, m, hM, HEnd.out, hKO⟩, by simp [intOf]; omega⟩
    · have hkl : k = l.length := by omega
      subst hkl
      rw [List.take_length] at hC
      have hlen := Lib.hid (cn_len hC)
      have hsm := cn_small hC
      have hel := evs_len l hM40
      have hEL : Hid ((entL m).length = m.length) := by show _ = _; unfold entL; simp
      have hLn : ∀ ty, (Builtin.len_ #[46] ty #[.map (some b)]).run Tryd.prog wr = .ok (.int .i64 m.length) wr := fun ty => by rw [hM.len Tryd.underlying46, hEL.out]
      have hMb := hM.lt
      by_cases hbig : m.length ≤ 30000
      rotate_left
      · have z4 : (30000 : Int) < m.length := by omega
        have hRR : Hid (learnP l (M : Int) = ([], 2)) := by show _ = _; rw [hR.out, if_neg (by have := hlen.out; omega)]
        clear hM hC hKO hlen hsm
        go_wp2_with fail
        go_ret2
        exact ⟨.slice none 0 0, by rw [hRR.out]; rfl, hd, by rw [hRR.out]; exact Sl.nil⟩
      have z4 : ¬ (30000 : Int) < m.length := by omega
      have hRR : Hid (learnP l (M : Int) = (learnE (evs l M), 0)) := by show _ = _; rw [hR.out, if_pos (by have := hlen.out; omega)]
      go_wp2_with (refine wpList_range_mp rfl _ _ rfl Tryd.underlying46 rfl hM ?_; intro w2 hRg hM2 hb2' hsz2)
      obtain ⟨r, hr⟩ : ∃ r, r = wr.heap.size := ⟨_, rfl⟩
      simp only [← hr]
      rw [← hr] at hRg hsz2 hMb
      have hd2 := hd.then hb2'
      obtain ⟨base, hbase⟩ : ∃ base, base = w2.heap.size := ⟨_, rfl⟩
      have hrb : r < base := by omega
      have hwb : w.heap.size ≤ base := by omega
      have hbs2 : base ≤ w2.heap.size := by omega
      clear hM hLn hd hb2' hr hbase hsz2
      go_loopw [4] (fun t wq => ∃ seen, Rg wq r b (entL m) seen ∧ Mp Tryd.prog 49 wq b (entL m) ∧ Bw w wq ∧ base ≤ wq.heap.size ∧ Acc tEn 37 wq base t (seen.map fun i => m.getD i e0)) (fun t _ => m.length - lenV t)
      case atStart => exact ⟨[], hRg, hM2, hd2, hbs2, Acc.nil _ _⟩
      case round =>
        obtain ⟨seen, hRg, hMr, hdr, hbs, hA⟩ := hrel
        have hlv : lenV u4 = seen.length := by
          obtain ⟨_, _, e1, _⟩ := hA.form
          rw [e1]; simp [lenV]
        go_wp2_with (refine wpList_next_mp rfl _ rfl rfl hRg hMr ?done ?more)
        case done =>
          intro hall
          have hP := perm_seen hRg.nd (fun i hi => by have := hRg.lt i hi; rwa [hEL.out] at this) (fun i hi => hall i (by rw [hEL.out]; exact hi))
          have hPw := (hP.pairwise_iff (fun {a b} (h : kyE a ≠ kyE b) e => h e.symm)).2 hC.1
          have HS := Lib.hid (sort23 hA hPw (by rw [hP.length_eq]; omega))
          have HC := Lib.hid hC
          have HP := Lib.hid hP
          clear hall hP hPw hC hKO hRg hMr hRR
          have hRR : Hid (learnP l (M : Int) = (learnE (evs l M), 0)) := by show _ = _; rw [hR.out, if_pos (by have := hlen.out; omega)]
          go_wp2_with fail
          with_reducible refine HS.out.mono ?_
          rintro e w5 ⟨rfl, ⟨ys, hys, hyp, hA5⟩, gg, hgg, hgr⟩
          have hy := Lib.hid (cn_learn HC.out (hyp.trans HP.out) hys)
          have hb5 : Bw w w5 := bw_grown hdr hgr (by omega)
          clear HS hyp hys
          go_wp2_with fail
          go_ret2
          exact ⟨u4, by rw [hRR.out]; rfl, hb5, by rw [hRR.out]; show Sl tEn w5 _ u4 (learnE (evs l M)); rw [← hy.out]; exact (hA5.weak hwb).hi⟩
        case more =>
          intro i key vv w3 hns hli hRg3 hM3 hg3 hsz3 hent
          have hsz3' := Lib.hid hsz3
          clear hsz3
          obtain ⟨e, he, hkv⟩ := entL_at hli
          obtain ⟨rfl, rfl⟩ := Prod.mk.inj hkv
          have hem := List.mem_of_getElem? he
          have hKe := hKO e hem
          have hec0 := cn_cnt hC hem
          have hec : inI64 e.2.2 := by unfold inI64; omega
          have hes : e.2.1.size ≤ maxLen := hKe.2.2
          have hsl : (seen.map fun i => m.getD i e0).length = seen.length := by simp
          have hsn := hRg3.len
          rw [List.length_append, List.length_singleton, hEL.out] at hsn
          have hown0 := hA.own
          have hnr : u4.ownBlock = none ∨ u4.ownBlock ≠ some r := .inr fun e1 => by have := (hown0 r e1).1; omega
          have hA3 := hA.grown hg3 hnr (fun k e1 => by injection e1 with e1; omega)
          have hd3 : Bw w w3 := bw_grown hdr hg3 (by omega)
          clear hA hRg hMr hdr hli hkv hg3
          go_wp2_with (refine wpList_box49 rfl rfl rfl _ _ rfl (keyL_len hKe.1) keyL_one rfl rfl ?_)
          try simp only [Act.put, List.setIfInBounds_toArray, List.set_cons_zero, List.set_cons_succ]
          obtain ⟨g, hg⟩ : ∃ g, g = w3.heap.size := ⟨_, rfl⟩
          obtain ⟨w4, hw4⟩ : ∃ w4, w4 = w3.alloc (.cells (keyL (kyE e)).toArray 49) := ⟨_, rfl⟩
          have rowG : w4.heap[w3.heap.size]? = some (.cells (keyL (kyE e)).toArray 49 (0, 0)) := by rw [hw4]; exact at_new rfl
          have hA : Acc tEn 37 w4 base u4 (seen.map fun i => m.getD i e0) := by rw [hw4]; exact hA3.alloc _
          have hRg4 : Rg w4 r b (entL m) (seen ++ [i]) := by rw [hw4]; exact hRg3.after (bw_refl_al _ _)
          have hM4 : Mp Tryd.prog 49 w4 b (entL m) := by rw [hw4]; exact hM3.alloc _
          have hd4 : Bw w w4 := by rw [hw4]; exact bw_al hd3 _
          have hs4 : w4.heap.size = w3.heap.size + 1 := by rw [hw4]; exact sz_alloc _ _
          simp only [← hw4, ← hg]
          rw [← hg] at rowG hs4
          have hgb : base ≤ g := by have := hsz3'.out; omega
          have hown : ∀ k, u4.ownBlock = some k → base ≤ k ∧ k < g := fun k e1 => by have := hown0 k e1; have := hsz3'.out; omega
          clear hw4 hg hA3 hRg3 hM3 hd3 hown0 hsz3'
          have K0 : ∀ W, Bw w4 W → (W.cell? ⟨g, 0, none⟩ = some (.int .i64 e.1.length) ∧ W.cell? ⟨g, 41, none⟩ = some (.string e.2.1)) := fun W kk => ⟨key_n (row_bw kk rowG), key_t hKe.1 (row_bw kk rowG)⟩
          have K7 : ∀ X W, Bw w4 X → X.grownBy W u4.ownBlock → (W.cell? ⟨g, 0, none⟩ = some (.int .i64 e.1.length) ∧ W.cell? ⟨g, 41, none⟩ = some (.string e.2.1)) := fun X W kk hg => by
            have r1 := row_bw kk rowG
            have r2 : W.heap[g]? = some (.cells (keyL (kyE e)).toArray 49 (0, 0)) := (hg.block g (Array.getElem?_eq_some_iff.1 r1).1 (fun e1 => by have := (hown g e1.symm).2; omega)).trans r1
            exact ⟨key_n r2, key_t hKe.1 r2⟩
          have hks : Rd tInt w4.drew (.slice (some ⟨g, 1, none⟩) e.1.length 40) e.1 := key_slice (w := w4.drew) hKe rowG (by show g < w4.heap.size; omega)
          have HCL := Lib.hid (clone_any hks (by have := hKe.1; show e.1.length ≤ _; have h1 : (kyE e).1 = e.1 := rfl; rw [h1] at this; omega))
          have hen : e.1.length ≤ 40 := hKe.1
          have hen2 : (e.1.length : Int) ≤ 40 := by omega
          have hbase4 : base ≤ w4.heap.size := by omega
          clear hks
          refine wp_region_held_drew (S := fun u => u.cell? ⟨g, 0, none⟩ = some (.int .i64 e.1.length) ∧ u.cell? ⟨g, 41, none⟩ = some (.string e.2.1)) (by kernel_rfl) ?_ (fun hHeld => ?_)
          · exact K0 _ (Bw.drew (Below.refl _ _))
          refine wpAnyH_take (i := 0) (oi := { dst := some 80, op := Go.Op.move (Go.Operand.tmp 4), type := 28, pos := "guess.go:57", after := #[], guard := none }) (v := ?v17) rfl (by kernel_rfl) (by kernel_rfl) (by kernel_rfl) (fun _ _ _ h => h) (Or.inl ⟨by rfl, ?hy17⟩) (by assumption) ?_
          case hy17 => (intro w hSw; (try dsimp only at hSw); go_simp; try with_reducible rfl)
          try simp only [Act.put, List.setIfInBounds_toArray, List.set_cons_zero, List.set_cons_succ]
          refine wpAnyH_take (i := 1) (oi := { dst := some 81, op := Go.Op.fieldAddr 49 (Go.Operand.tmp 11) 1, type := 0, pos := "guess.go:57", after := #[], guard := none }) (v := ?v18) rfl (by kernel_rfl) (by kernel_rfl) (by kernel_rfl) (fun _ _ _ h => h) (Or.inl ⟨by rfl, ?hy18⟩) (by assumption) ?_
          case hy18 => (intro w hSw; (try dsimp only at hSw); go_simp; try with_reducible rfl)
          try simp only [Act.put, List.setIfInBounds_toArray, List.set_cons_zero, List.set_cons_succ]
          refine wpAnyH_take (i := 2) (oi := { dst := some 82, op := Go.Op.fieldAddr 49 (Go.Operand.tmp 11) 0, type := 0, pos := "guess.go:57", after := #[], guard := none }) (v := ?v19) rfl (by kernel_rfl) (by kernel_rfl) (by kernel_rfl) (fun _ _ _ h => h) (Or.inl ⟨by rfl, ?hy19⟩) (by assumption) ?_
          case hy19 => (intro w hSw; (try dsimp only at hSw); go_simp; try with_reducible rfl)
          try simp only [Act.put, List.setIfInBounds_toArray, List.set_cons_zero, List.set_cons_succ]
          refine wpAnyH_take (i := 3) (oi := { dst := some 83, op := Go.Op.load 3 (Go.Operand.tmp 82), type := 3, pos := "guess.go:57", after := #[{ on := 2, ground := Go.Ground.data }], guard := none }) (v := ?v20) rfl (by kernel_rfl) (by kernel_rfl) (by kernel_rfl) (fun _ _ _ h => h) (Or.inl ⟨by rfl, ?hy20⟩) (by assumption) ?_
          case hy20 => (intro w hSw; (try dsimp only at hSw); go_simp; try with_reducible rfl)
          try simp only [Act.put, List.setIfInBounds_toArray, List.set_cons_zero, List.set_cons_succ]
          refine wpAnyH_take (i := 4) (oi := { dst := some 84, op := Go.Op.slice 47 (Go.Operand.tmp 81) none (some (Go.Operand.tmp 83)) none, type := 25, pos := "guess.go:57", after := #[{ on := 1, ground := Go.Ground.data }, { on := 3, ground := Go.Ground.data }], guard := none }) (v := Value.slice (some ⟨g, 1, none⟩) e.1.length 40) rfl (by kernel_rfl) (by kernel_rfl) (by kernel_rfl) (fun _ _ _ h => h) (Or.inl ⟨by rfl, ?hy21⟩) (by assumption) ?_
          case hy21 => (intro w hSw; (try dsimp only at hSw); go_simp)
          try simp only [Act.put, List.setIfInBounds_toArray, List.set_cons_zero, List.set_cons_succ]
          refine wpAnyH_take (i := 6) (oi := { dst := some 86, op := Go.Op.fieldAddr 49 (Go.Operand.tmp 11) 2, type := 0, pos := "guess.go:57", after := #[], guard := none }) (v := ?v22) rfl (by kernel_rfl) (by kernel_rfl) (by kernel_rfl) (fun _ _ _ h => h) (Or.inl ⟨by rfl, ?hy22⟩) (by assumption) ?_
          case hy22 => (intro w hSw; (try dsimp only at hSw); go_simp; try with_reducible rfl)
          try simp only [Act.put, List.setIfInBounds_toArray, List.set_cons_zero, List.set_cons_succ]
          refine wpAnyH_take (i := 7) (oi := { dst := some 87, op := Go.Op.load 9 (Go.Operand.tmp 86), type := 9, pos := "guess.go:57", after := #[{ on := 6, ground := Go.Ground.data }], guard := none }) (v := ?v23) rfl (by kernel_rfl) (by kernel_rfl) (by kernel_rfl) (fun _ _ _ h => h) (Or.inl ⟨by rfl, ?hy23⟩) (by assumption) ?_
          case hy23 => (intro w hSw; (try dsimp only at hSw); go_simp; try with_reducible rfl)
          try simp only [Act.put, List.setIfInBounds_toArray, List.set_cons_zero, List.set_cons_succ]
          refine wpAnyH_take (i := 8) (oi := { dst := some 88, op := Go.Op.move (Go.Operand.tmp 12), type := 3, pos := "guess.go:57", after := #[], guard := none }) (v := ?v24) rfl (by kernel_rfl) (by kernel_rfl) (by kernel_rfl) (fun _ _ _ h => h) (Or.inl ⟨by rfl, ?hy24⟩) (by assumption) ?_
          case hy24 => (intro w hSw; (try dsimp only at hSw); go_simp; try with_reducible rfl)
          try simp only [Act.put, List.setIfInBounds_toArray, List.set_cons_zero, List.set_cons_succ]
          refine wpAnyH_ready (rs := [5]) (by kernel_rfl) (by simp) ?_
          refine (AllReadyH.cons (i := 5) (o := { dst := some 85, op := Go.Op.call { callee := Go.Callee.value (Go.Operand.func 22), args := #[Go.Operand.tmp 84], argTypes := #[25] }, type := 25, pos := "guess.go:57", after := #[{ on := 4, ground := Go.Ground.data }], guard := none }) rfl (fun K' hK' => ?_) AllReadyH.nil)
          go_simp
          with_reducible refine HCL.out.mono ?_
          rintro e5 w5 ⟨u', rfl, hb5, hu'⟩
          have hb5' := (Bw.drew (Below.refl _ w4)).then hb5
          obtain ⟨P5, n5, c5, rfl, _, _, _⟩ := hu'.form'
          try dsimp only
          refine hK'.out _ _ ?_ (fun hHeld => ?_)
          · exact K0 _ hb5'
          clear hK' K'
          try simp only [Act.put, List.setIfInBounds_toArray, List.set_cons_zero, List.set_cons_succ]
          refine wpAnyH_take (i := 9) (oi := { dst := some 89, op := Go.Op.build 37 #[(0, Go.Operand.tmp 85), (1, Go.Operand.tmp 87), (2, Go.Operand.tmp 88)], type := 37, pos := "guess.go:57", after := #[{ on := 5, ground := Go.Ground.data }, { on := 7, ground := Go.Ground.data }, { on := 8, ground := Go.Ground.data }], guard := none }) (v := ?v25) rfl (by kernel_rfl) (by kernel_rfl) (by kernel_rfl) (fun _ _ _ h => h) (Or.inl ⟨by rfl, ?hy25⟩) (by assumption) ?_
          case hy25 => (intro w hSw; (try dsimp only at hSw); go_simp; try with_reducible rfl)
          try simp only [Act.put, List.setIfInBounds_toArray, List.set_cons_zero, List.set_cons_succ]
          refine wpAnyH_ready (rs := [10]) (by kernel_rfl) (by simp) ?_
          refine (AllReadyH.cons (i := 10) (o := { dst := some 90, op := Go.Op.buildSlice 28 1 #[(0, Go.Operand.tmp 89)], type := 28, pos := "guess.go:57", after := #[{ on := 9, ground := Go.Ground.data }], guard := none }) rfl (fun K' hK' => ?_) AllReadyH.nil)
          go_simp
          refine hK'.out _ _ ?_ (fun hHeld => ?_)
          · exact K0 _ (bw_al hb5' _)
          clear hK' K'
          try simp only [Act.put, List.setIfInBounds_toArray, List.set_cons_zero, List.set_cons_succ]
          have hA8 := (hA.after hb5').alloc (.cells #[.slice P5 n5 c5, .string e.2.1, .int .i64 e.2.2] 37)
          have hsz5 := hb5'.size
          have hsz4 := hb5.size
          have hrep : tEn.rep (w5.alloc (.cells #[.slice P5 n5 c5, .string e.2.1, .int .i64 e.2.2] 37)) (fun bb => base ≤ bb ∧ some bb ≠ u4.ownBlock) [.slice P5 n5 c5, .string e.2.1, .int .i64 e.2.2] e :=
            en_mk (hu'.lt.keep fun bb hbb => ⟨⟨by have h1 : w4.drew.heap.size ≤ bb := hbb.1; have h2 : w4.drew.heap.size = w4.heap.size := rfl; omega, fun e1 => by have h1 : w4.drew.heap.size ≤ bb := hbb.1; have h2 : w4.drew.heap.size = w4.heap.size := rfl; have := (hown bb e1.symm).2; omega⟩, Below.heap_alloc _ _ bb hbb.2⟩) hes hec
          refine wpAnyH_ready (rs := [11]) (by kernel_rfl) (by simp) ?_
          refine (AllReadyH.cons (i := 11) (o := { dst := some 91, op := Go.Op.call { callee := Go.Callee.builtin Go.Builtin.append, args := #[Go.Operand.tmp 80, Go.Operand.tmp 90], argTypes := #[28, 28] }, type := 28, pos := "guess.go:57", after := #[{ on := 0, ground := Go.Ground.data }, { on := 10, ground := Go.Ground.data }, { on := 5, ground := Go.Ground.chain }], guard := none }) rfl (fun K' hK' => ?_) AllReadyH.nil)
          refine step_app_one (T := tEn) rfl _ _ rfl Tryd.underlying28 hi hz0 hz1 hz2 rfl (by rfl) hA8 (by rfl) (at_new rfl) hrep (by rw [hsl]; simp [maxLen]; omega) (by rw [hsl]; omega) (by rw [sz_alloc]; omega) ?_
          intro v7 w7 hA7 hg7 hat7
          refine hK'.out _ _ ?_ (fun hHeld => ?_)
          · exact K7 _ _ (bw_al hb5' _) hg7
          clear hK' K'
          try simp only [Act.put, List.setIfInBounds_toArray, List.set_cons_zero, List.set_cons_succ]
          refine wpAnyH_take (i := 12) (oi := { dst := some 4, op := Go.Op.assign (Go.Operand.tmp 91), type := 28, pos := "guess.go:57", after := #[{ on := 11, ground := Go.Ground.data }, { on := 11, ground := Go.Ground.chain }, { on := 0, ground := Go.Ground.phase }, { on := 1, ground := Go.Ground.phase }, { on := 2, ground := Go.Ground.phase }, { on := 3, ground := Go.Ground.phase }, { on := 4, ground := Go.Ground.phase }, { on := 5, ground := Go.Ground.phase }, { on := 6, ground := Go.Ground.phase }, { on := 7, ground := Go.Ground.phase }, { on := 8, ground := Go.Ground.phase }, { on := 9, ground := Go.Ground.phase }, { on := 10, ground := Go.Ground.phase }, { on := 11, ground := Go.Ground.phase }], guard := none }) (v := ?v26) rfl (by kernel_rfl) (by kernel_rfl) (by kernel_rfl) (fun _ _ _ h => h) (Or.inl ⟨by rfl, ?hy26⟩) (by assumption) ?_
          case hy26 => (intro w hSw; (try dsimp only at hSw); go_simp; try with_reducible rfl)
          try simp only [Act.put, List.setIfInBounds_toArray, List.set_cons_zero, List.set_cons_succ]
          refine wpAnyH_done (by kernel_rfl) ?_ _
          go_wp2_with fail
          have hb9 : Bw w w7 := Acc.bw (hd4.then (bw_al hb5' _)) hg7 (fun g1 e1 => (hown g1 e1).1) hwb
          have hRg7 : Rg w7 r b (entL m) (seen ++ [i]) := (hRg4.after (bw_al hb5' _)).grown hg7 (fun e1 => by have := (hown r e1.symm).1; omega)
          have hM7 : Mp Tryd.prog 49 w7 b (entL m) := (hM4.after (bw_al hb5' _)).grown hg7 (fun e1 => by have := (hown b e1.symm).1; omega)
          have hA9 : Acc tEn 37 w7 base v7 ((seen ++ [i]).map fun i => m.getD i e0) := by
            rw [List.map_append, List.map_singleton, getD_of he]; exact hA7
          have hl7 : lenV v7 = seen.length + 1 := by
            obtain ⟨_, _, e1, _⟩ := hA7.form
            rw [e1]; simp [lenV]
          exact ⟨⟨seen ++ [i], hRg7, hM7, hb9, (by have h1 := hg7.size; rw [sz_alloc] at h1; omega), hA9⟩, by omega⟩
end Go.Proofs.YtonadloonidmjaaDoor

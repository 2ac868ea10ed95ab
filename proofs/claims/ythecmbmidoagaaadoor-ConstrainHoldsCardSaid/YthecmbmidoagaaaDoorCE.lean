/- The contract of the reference's 'Holds'. Conditions: what the arguments read as. -/
import Derived.Test.YthecmbmidoagaaaDoorCC
namespace Go.Proofs.YthecmbmidoagaaaDoor
open Go.RowKit Go.Maps
open Pl

set_option maxRecDepth 100000 in
set_option maxHeartbeats 16000000 in
theorem rHolds_any {t : Tst} {u1 u2 v : Value} {l : List Coh} {i : Int} {w : World} (hi : inI64 t.at') (h1 : Rd tStr w u1 t.tags) (h2 : Rd tStr w u2 t.bar) (hl : Rd tCoh w v l) :
    Calls Tryd.prog 17 #[.agg #[.int .i64 t.at', .bool t.scan, .bool t.neg, .bool t.care, u1, u2], v, .int .i64 i] w fun e w' => e = .returned (.bool (holdsB nameB t l i)) ∧ Bw w w' := by
  obtain ⟨at', scan, neg, care, tags, bar⟩ := t
  simp only at *
  have hlm := hl.len_le
  obtain ⟨A, c, rfl, _, _⟩ := hl.form
  obtain ⟨A1, c1, rfl, _, _⟩ := h1.form
  obtain ⟨A2, c2, rfl, _, _⟩ := h2.form
  have hb1 := bw_refl_al w (.cells #[.int .i64 at', .bool scan, .bool neg, .bool care, .slice A1 tags.length c1, .slice A2 bar.length c2] 28)
  have rt : (w.alloc (.cells #[.int .i64 at', .bool scan, .bool neg, .bool care, .slice A1 tags.length c1, .slice A2 bar.length c2] 28)).heap[w.heap.size]? = _ := at_new rfl
  have K : ∀ w', Bw (w.alloc (.cells #[.int .i64 at', .bool scan, .bool neg, .bool care, .slice A1 tags.length c1, .slice A2 bar.length c2] 28)) w' → w'.cell? ⟨w.heap.size, 0, none⟩ = some (.int .i64 at') ∧ w'.cell? ⟨w.heap.size, 1, none⟩ = some (.bool scan) ∧ w'.cell? ⟨w.heap.size, 2, none⟩ = some (.bool neg) ∧ w'.cell? ⟨w.heap.size, 3, none⟩ = some (.bool care) ∧ w'.cell? ⟨w.heap.size, 4, none⟩ = some (.slice A1 tags.length c1) ∧ w'.cell? ⟨w.heap.size, 5, none⟩ = some (.slice A2 bar.length c2) := fun w' kk => box6 rt kk
  clear rt
  have H1 := Lib.hid (fun (W : World) (k : Bw (w.alloc (.cells #[.int .i64 at', .bool scan, .bool neg, .bool care, .slice A1 tags.length c1, .slice A2 bar.length c2] 28)) W) => rvt_any (t := ⟨at', scan, neg, care, tags, bar⟩) hi (h1.after (hb1.then k)) (h2.after (hb1.then k)))
  have H2 := Lib.hid (fun (W : World) (k : Bw (w.alloc (.cells #[.int .i64 at', .bool scan, .bool neg, .bool care, .slice A1 tags.length c1, .slice A2 bar.length c2] 28)) W) => rvalid_any (hl.after (hb1.then k)))
  simp only at H1
  have Hv : Hid (holdsB nameB ⟨at', scan, neg, care, tags, bar⟩ l i = (validT nameB ⟨at', scan, neg, care, tags, bar⟩ && validL nameB l && inL l i && holdB ⟨at', scan, neg, care, tags, bar⟩ l i)) := rfl
  rw [Hv.out]
  clear Hv
  by_cases q1 : validT nameB ⟨at', scan, neg, care, tags, bar⟩ = true
  case neg =>
    rw [Bool.not_eq_true] at q1
    rw [q1] at H1 ⊢
    rw [Bool.false_and, Bool.false_and, Bool.false_and]
    clear q1 h1 h2 hl
    go_enter Tryd.func17, Tryd.ntmps17
    go_wp2_with fail
    refine wp_region_held_drew (S := fun w' => w'.cell? ⟨w.heap.size, 0, none⟩ = some (.int .i64 at') ∧ w'.cell? ⟨w.heap.size, 1, none⟩ = some (.bool scan) ∧ w'.cell? ⟨w.heap.size, 2, none⟩ = some (.bool neg) ∧ w'.cell? ⟨w.heap.size, 3, none⟩ = some (.bool care) ∧ w'.cell? ⟨w.heap.size, 4, none⟩ = some (.slice A1 tags.length c1) ∧ w'.cell? ⟨w.heap.size, 5, none⟩ = some (.slice A2 bar.length c2)) (by kernel_rfl) ?_ (fun hHeld => ?_)
    · exact K _ (by (repeat' first | with_reducible exact Below.refl _ _ | with_reducible assumption | with_reducible refine Bw.drew ?_ | with_reducible refine Bw.drewN ?_ _ | with_reducible refine bw_al ?_ _ | with_reducible refine Bw.then ?_ (by with_reducible assumption)))
    refine wpAnyH_take (i := 0) (oi := { dst := some 7, op := Go.Op.load 28 (Go.Operand.tmp 3), type := 28, pos := "ref.go:78", after := #[], guard := none }) (v := ?v1) rfl (by kernel_rfl) (by kernel_rfl) (by kernel_rfl) (fun _ _ _ h => h) (Or.inl ⟨by rfl, ?hy1⟩) (by assumption) ?_
    case hy1 => (intro w hSw; (try dsimp only at hSw); go_simp; try with_reducible rfl)
    try simp only [Act.put, List.setIfInBounds_toArray, List.set_cons_zero, List.set_cons_succ]
    refine wpAnyH_ready (rs := [1]) (by kernel_rfl) (by simp) ?_
    refine (AllReadyH.cons (i := 1) (o := { dst := some 8, op := Go.Op.call { callee := Go.Callee.value (Go.Operand.func 37), args := #[Go.Operand.tmp 7], argTypes := #[28] }, type := 4, pos := "ref.go:78", after := #[{ on := 0, ground := Go.Ground.data }], guard := none }) rfl (fun K' hK' => ?_) AllReadyH.nil)
    go_simp
    with_reducible refine (H1.out _ (by (repeat' first | with_reducible exact Below.refl _ _ | with_reducible assumption | with_reducible refine Bw.drew ?_ | with_reducible refine Bw.drewN ?_ _ | with_reducible refine bw_al ?_ _ | with_reducible refine Bw.then ?_ (by with_reducible assumption)))).mono ?_
    rintro e wA ⟨rfl, hbA⟩
    try dsimp only
    refine hK'.out _ _ ?_ (fun hHeld => ?_)
    · exact K _ (by (repeat' first | with_reducible exact Below.refl _ _ | with_reducible assumption | with_reducible refine Bw.drew ?_ | with_reducible refine Bw.drewN ?_ _ | with_reducible refine bw_al ?_ _ | with_reducible refine Bw.then ?_ (by with_reducible assumption)))
    clear hK' K'
    try simp only [Act.put, List.setIfInBounds_toArray, List.set_cons_zero, List.set_cons_succ]
    refine wpAnyH_take (i := 2) (oi := { dst := some 9, op := Go.Op.move (Go.Operand.tmp 8), type := 4, pos := "ref.go:78", after := #[{ on := 1, ground := Go.Ground.data }, { on := 1, ground := Go.Ground.chain }], guard := none }) (v := ?v2) rfl (by kernel_rfl) (by kernel_rfl) (by kernel_rfl) (fun _ _ _ h => h) (Or.inl ⟨by rfl, ?hy2⟩) (by assumption) ?_
    case hy2 => (intro w hSw; (try dsimp only at hSw); go_simp; try with_reducible rfl)
    try simp only [Act.put, List.setIfInBounds_toArray, List.set_cons_zero, List.set_cons_succ]
    refine wpAnyH_take (i := 3) (oi := { dst := some 10, op := Go.Op.move (Go.Operand.tmp 1), type := 29, pos := "ref.go:78", after := #[{ on := 2, ground := Go.Ground.guard }], guard := some (2, true) }) (v := undef) rfl (by kernel_rfl) (by kernel_rfl) (by kernel_rfl) (fun _ _ _ h => h) (Or.inr ⟨by rfl, rfl⟩) (by assumption) ?_
    try simp only [Act.put, List.setIfInBounds_toArray, List.set_cons_zero, List.set_cons_succ]
    refine wpAnyH_take (i := 4) (oi := { dst := some 11, op := Go.Op.call { callee := Go.Callee.value (Go.Operand.func 38), args := #[Go.Operand.tmp 10], argTypes := #[29] }, type := 4, pos := "ref.go:78", after := #[{ on := 3, ground := Go.Ground.data }, { on := 2, ground := Go.Ground.chain }, { on := 2, ground := Go.Ground.guard }], guard := some (2, true) }) (v := undef) rfl (by kernel_rfl) (by kernel_rfl) (by kernel_rfl) (fun _ _ _ h => h) (Or.inr ⟨by rfl, rfl⟩) (by assumption) ?_
    try simp only [Act.put, List.setIfInBounds_toArray, List.set_cons_zero, List.set_cons_succ]
    refine wpAnyH_take (i := 5) (oi := { dst := some 12, op := Go.Op.pick (Go.Operand.tmp 9) (Go.Operand.tmp 11) (Go.Operand.const (Go.Value.bool false)), type := 4, pos := "ref.go:78", after := #[{ on := 2, ground := Go.Ground.data }, { on := 4, ground := Go.Ground.data }], guard := none }) (v := ?v3) rfl (by kernel_rfl) (by kernel_rfl) (by kernel_rfl) (fun _ _ _ h => h) (Or.inl ⟨by rfl, ?hy3⟩) (by assumption) ?_
    case hy3 => (intro w hSw; (try dsimp only at hSw); go_simp; try with_reducible rfl)
    try simp only [Act.put, List.setIfInBounds_toArray, List.set_cons_zero, List.set_cons_succ]
    refine wpAnyH_take (i := 6) (oi := { dst := some 13, op := Go.Op.move (Go.Operand.tmp 12), type := 4, pos := "ref.go:78", after := #[{ on := 5, ground := Go.Ground.data }, { on := 4, ground := Go.Ground.chain }], guard := none }) (v := ?v4) rfl (by kernel_rfl) (by kernel_rfl) (by kernel_rfl) (fun _ _ _ h => h) (Or.inl ⟨by rfl, ?hy4⟩) (by assumption) ?_
    case hy4 => (intro w hSw; (try dsimp only at hSw); go_simp; try with_reducible rfl)
    try simp only [Act.put, List.setIfInBounds_toArray, List.set_cons_zero, List.set_cons_succ]
    refine wpAnyH_take (i := 7) (oi := { dst := some 14, op := Go.Op.move (Go.Operand.tmp 2), type := 3, pos := "ref.go:78", after := #[{ on := 6, ground := Go.Ground.guard }], guard := some (6, true) }) (v := undef) rfl (by kernel_rfl) (by kernel_rfl) (by kernel_rfl) (fun _ _ _ h => h) (Or.inr ⟨by rfl, rfl⟩) (by assumption) ?_
    try simp only [Act.put, List.setIfInBounds_toArray, List.set_cons_zero, List.set_cons_succ]
    refine wpAnyH_take (i := 8) (oi := { dst := some 15, op := Go.Op.binOp Go.BinOp.geq 3 (Go.Operand.tmp 14) (Go.Operand.const (Go.Value.int Go.IntKind.i64 0)) 3, type := 4, pos := "ref.go:78", after := #[{ on := 7, ground := Go.Ground.data }, { on := 6, ground := Go.Ground.guard }], guard := some (6, true) }) (v := undef) rfl (by kernel_rfl) (by kernel_rfl) (by kernel_rfl) (fun _ _ _ h => h) (Or.inr ⟨by rfl, rfl⟩) (by assumption) ?_
    try simp only [Act.put, List.setIfInBounds_toArray, List.set_cons_zero, List.set_cons_succ]
    refine wpAnyH_take (i := 9) (oi := { dst := some 16, op := Go.Op.pick (Go.Operand.tmp 13) (Go.Operand.tmp 15) (Go.Operand.const (Go.Value.bool false)), type := 4, pos := "ref.go:78", after := #[{ on := 6, ground := Go.Ground.data }, { on := 8, ground := Go.Ground.data }], guard := none }) (v := ?v5) rfl (by kernel_rfl) (by kernel_rfl) (by kernel_rfl) (fun _ _ _ h => h) (Or.inl ⟨by rfl, ?hy5⟩) (by assumption) ?_
    case hy5 => (intro w hSw; (try dsimp only at hSw); go_simp; try with_reducible rfl)
    try simp only [Act.put, List.setIfInBounds_toArray, List.set_cons_zero, List.set_cons_succ]
    refine wpAnyH_take (i := 10) (oi := { dst := some 17, op := Go.Op.move (Go.Operand.tmp 16), type := 4, pos := "ref.go:78", after := #[{ on := 9, ground := Go.Ground.data }, { on := 6, ground := Go.Ground.chain }], guard := none }) (v := ?v6) rfl (by kernel_rfl) (by kernel_rfl) (by kernel_rfl) (fun _ _ _ h => h) (Or.inl ⟨by rfl, ?hy6⟩) (by assumption) ?_
    case hy6 => (intro w hSw; (try dsimp only at hSw); go_simp; try with_reducible rfl)
    try simp only [Act.put, List.setIfInBounds_toArray, List.set_cons_zero, List.set_cons_succ]
    refine wpAnyH_take (i := 11) (oi := { dst := some 18, op := Go.Op.move (Go.Operand.tmp 2), type := 3, pos := "ref.go:78", after := #[{ on := 10, ground := Go.Ground.guard }], guard := some (10, true) }) (v := undef) rfl (by kernel_rfl) (by kernel_rfl) (by kernel_rfl) (fun _ _ _ h => h) (Or.inr ⟨by rfl, rfl⟩) (by assumption) ?_
    try simp only [Act.put, List.setIfInBounds_toArray, List.set_cons_zero, List.set_cons_succ]
    refine wpAnyH_take (i := 12) (oi := { dst := some 19, op := Go.Op.move (Go.Operand.tmp 1), type := 29, pos := "ref.go:78", after := #[{ on := 10, ground := Go.Ground.guard }], guard := some (10, true) }) (v := undef) rfl (by kernel_rfl) (by kernel_rfl) (by kernel_rfl) (fun _ _ _ h => h) (Or.inr ⟨by rfl, rfl⟩) (by assumption) ?_
    try simp only [Act.put, List.setIfInBounds_toArray, List.set_cons_zero, List.set_cons_succ]
    refine wpAnyH_take (i := 13) (oi := { dst := some 20, op := Go.Op.call { callee := Go.Callee.builtin Go.Builtin.len, args := #[Go.Operand.tmp 19], argTypes := #[29] }, type := 3, pos := "ref.go:78", after := #[{ on := 12, ground := Go.Ground.data }, { on := 10, ground := Go.Ground.guard }], guard := some (10, true) }) (v := undef) rfl (by kernel_rfl) (by kernel_rfl) (by kernel_rfl) (fun _ _ _ h => h) (Or.inr ⟨by rfl, rfl⟩) (by assumption) ?_
    try simp only [Act.put, List.setIfInBounds_toArray, List.set_cons_zero, List.set_cons_succ]
    refine wpAnyH_take (i := 14) (oi := { dst := some 21, op := Go.Op.binOp Go.BinOp.lss 3 (Go.Operand.tmp 18) (Go.Operand.tmp 20) 3, type := 4, pos := "ref.go:78", after := #[{ on := 11, ground := Go.Ground.data }, { on := 13, ground := Go.Ground.data }, { on := 10, ground := Go.Ground.guard }], guard := some (10, true) }) (v := undef) rfl (by kernel_rfl) (by kernel_rfl) (by kernel_rfl) (fun _ _ _ h => h) (Or.inr ⟨by rfl, rfl⟩) (by assumption) ?_
    try simp only [Act.put, List.setIfInBounds_toArray, List.set_cons_zero, List.set_cons_succ]
    refine wpAnyH_take (i := 15) (oi := { dst := some 22, op := Go.Op.pick (Go.Operand.tmp 17) (Go.Operand.tmp 21) (Go.Operand.const (Go.Value.bool false)), type := 4, pos := "ref.go:78", after := #[{ on := 10, ground := Go.Ground.data }, { on := 14, ground := Go.Ground.data }], guard := none }) (v := ?v7) rfl (by kernel_rfl) (by kernel_rfl) (by kernel_rfl) (fun _ _ _ h => h) (Or.inl ⟨by rfl, ?hy7⟩) (by assumption) ?_
    case hy7 => (intro w hSw; (try dsimp only at hSw); go_simp; try with_reducible rfl)
    try simp only [Act.put, List.setIfInBounds_toArray, List.set_cons_zero, List.set_cons_succ]
    refine wpAnyH_take (i := 16) (oi := { dst := some 23, op := Go.Op.move (Go.Operand.tmp 22), type := 4, pos := "ref.go:78", after := #[{ on := 15, ground := Go.Ground.data }, { on := 10, ground := Go.Ground.chain }], guard := none }) (v := ?v8) rfl (by kernel_rfl) (by kernel_rfl) (by kernel_rfl) (fun _ _ _ h => h) (Or.inl ⟨by rfl, ?hy8⟩) (by assumption) ?_
    case hy8 => (intro w hSw; (try dsimp only at hSw); go_simp; try with_reducible rfl)
    try simp only [Act.put, List.setIfInBounds_toArray, List.set_cons_zero, List.set_cons_succ]
    refine wpAnyH_take (i := 17) (oi := { dst := some 24, op := Go.Op.load 28 (Go.Operand.tmp 3), type := 28, pos := "ref.go:78", after := #[{ on := 16, ground := Go.Ground.guard }], guard := some (16, true) }) (v := undef) rfl (by kernel_rfl) (by kernel_rfl) (by kernel_rfl) (fun _ _ _ h => h) (Or.inr ⟨by rfl, rfl⟩) (by assumption) ?_
    try simp only [Act.put, List.setIfInBounds_toArray, List.set_cons_zero, List.set_cons_succ]
    refine wpAnyH_take (i := 18) (oi := { dst := some 25, op := Go.Op.move (Go.Operand.tmp 1), type := 29, pos := "ref.go:78", after := #[{ on := 16, ground := Go.Ground.guard }], guard := some (16, true) }) (v := undef) rfl (by kernel_rfl) (by kernel_rfl) (by kernel_rfl) (fun _ _ _ h => h) (Or.inr ⟨by rfl, rfl⟩) (by assumption) ?_
    try simp only [Act.put, List.setIfInBounds_toArray, List.set_cons_zero, List.set_cons_succ]
    refine wpAnyH_take (i := 19) (oi := { dst := some 26, op := Go.Op.move (Go.Operand.tmp 2), type := 3, pos := "ref.go:78", after := #[{ on := 16, ground := Go.Ground.guard }], guard := some (16, true) }) (v := undef) rfl (by kernel_rfl) (by kernel_rfl) (by kernel_rfl) (fun _ _ _ h => h) (Or.inr ⟨by rfl, rfl⟩) (by assumption) ?_
    try simp only [Act.put, List.setIfInBounds_toArray, List.set_cons_zero, List.set_cons_succ]
    refine wpAnyH_take (i := 20) (oi := { dst := some 27, op := Go.Op.call { callee := Go.Callee.value (Go.Operand.func 39), args := #[Go.Operand.tmp 24, Go.Operand.tmp 25, Go.Operand.tmp 26], argTypes := #[28, 29, 3] }, type := 4, pos := "ref.go:78", after := #[{ on := 17, ground := Go.Ground.data }, { on := 18, ground := Go.Ground.data }, { on := 19, ground := Go.Ground.data }, { on := 16, ground := Go.Ground.chain }, { on := 16, ground := Go.Ground.guard }], guard := some (16, true) }) (v := undef) rfl (by kernel_rfl) (by kernel_rfl) (by kernel_rfl) (fun _ _ _ h => h) (Or.inr ⟨by rfl, rfl⟩) (by assumption) ?_
    try simp only [Act.put, List.setIfInBounds_toArray, List.set_cons_zero, List.set_cons_succ]
    refine wpAnyH_take (i := 21) (oi := { dst := some 28, op := Go.Op.fieldAddr 28 (Go.Operand.tmp 3) 2, type := 0, pos := "ref.go:78", after := #[{ on := 16, ground := Go.Ground.guard }], guard := some (16, true) }) (v := undef) rfl (by kernel_rfl) (by kernel_rfl) (by kernel_rfl) (fun _ _ _ h => h) (Or.inr ⟨by rfl, rfl⟩) (by assumption) ?_
    try simp only [Act.put, List.setIfInBounds_toArray, List.set_cons_zero, List.set_cons_succ]
    refine wpAnyH_take (i := 22) (oi := { dst := some 29, op := Go.Op.load 4 (Go.Operand.tmp 28), type := 4, pos := "ref.go:78", after := #[{ on := 21, ground := Go.Ground.data }, { on := 16, ground := Go.Ground.guard }], guard := some (16, true) }) (v := undef) rfl (by kernel_rfl) (by kernel_rfl) (by kernel_rfl) (fun _ _ _ h => h) (Or.inr ⟨by rfl, rfl⟩) (by assumption) ?_
    try simp only [Act.put, List.setIfInBounds_toArray, List.set_cons_zero, List.set_cons_succ]
    refine wpAnyH_take (i := 23) (oi := { dst := some 30, op := Go.Op.binOp Go.BinOp.neq 4 (Go.Operand.tmp 27) (Go.Operand.tmp 29) 4, type := 4, pos := "ref.go:78", after := #[{ on := 20, ground := Go.Ground.data }, { on := 22, ground := Go.Ground.data }, { on := 16, ground := Go.Ground.guard }], guard := some (16, true) }) (v := undef) rfl (by kernel_rfl) (by kernel_rfl) (by kernel_rfl) (fun _ _ _ h => h) (Or.inr ⟨by rfl, rfl⟩) (by assumption) ?_
    try simp only [Act.put, List.setIfInBounds_toArray, List.set_cons_zero, List.set_cons_succ]
    refine wpAnyH_take (i := 24) (oi := { dst := some 31, op := Go.Op.pick (Go.Operand.tmp 23) (Go.Operand.tmp 30) (Go.Operand.const (Go.Value.bool false)), type := 4, pos := "ref.go:78", after := #[{ on := 16, ground := Go.Ground.data }, { on := 23, ground := Go.Ground.data }], guard := none }) (v := ?v9) rfl (by kernel_rfl) (by kernel_rfl) (by kernel_rfl) (fun _ _ _ h => h) (Or.inl ⟨by rfl, ?hy9⟩) (by assumption) ?_
    case hy9 => (intro w hSw; (try dsimp only at hSw); go_simp; try with_reducible rfl)
    try simp only [Act.put, List.setIfInBounds_toArray, List.set_cons_zero, List.set_cons_succ]
    refine wpAnyH_take (i := 25) (oi := { dst := some 6, op := Go.Op.assign (Go.Operand.tmp 31), type := 4, pos := "ref.go:78", after := #[{ on := 24, ground := Go.Ground.data }, { on := 20, ground := Go.Ground.chain }, { on := 0, ground := Go.Ground.phase }, { on := 1, ground := Go.Ground.phase }, { on := 2, ground := Go.Ground.phase }, { on := 3, ground := Go.Ground.phase }, { on := 4, ground := Go.Ground.phase }, { on := 5, ground := Go.Ground.phase }, { on := 6, ground := Go.Ground.phase }, { on := 7, ground := Go.Ground.phase }, { on := 8, ground := Go.Ground.phase }, { on := 9, ground := Go.Ground.phase }, { on := 10, ground := Go.Ground.phase }, { on := 11, ground := Go.Ground.phase }, { on := 12, ground := Go.Ground.phase }, { on := 13, ground := Go.Ground.phase }, { on := 14, ground := Go.Ground.phase }, { on := 15, ground := Go.Ground.phase }, { on := 16, ground := Go.Ground.phase }, { on := 17, ground := Go.Ground.phase }, { on := 18, ground := Go.Ground.phase }, { on := 19, ground := Go.Ground.phase }, { on := 20, ground := Go.Ground.phase }, { on := 21, ground := Go.Ground.phase }, { on := 22, ground := Go.Ground.phase }, { on := 23, ground := Go.Ground.phase }, { on := 24, ground := Go.Ground.phase }], guard := none }) (v := ?v10) rfl (by kernel_rfl) (by kernel_rfl) (by kernel_rfl) (fun _ _ _ h => h) (Or.inl ⟨by rfl, ?hy10⟩) (by assumption) ?_
    case hy10 => (intro w hSw; (try dsimp only at hSw); go_simp; try with_reducible rfl)
    try simp only [Act.put, List.setIfInBounds_toArray, List.set_cons_zero, List.set_cons_succ]
    refine wpAnyH_done (by kernel_rfl) ?_ _
    go_wp2_with fail
    go_ret
    exact ⟨ret_b rfl, hb1.then (by (repeat' first | with_reducible exact Below.refl _ _ | with_reducible assumption | with_reducible refine Bw.drew ?_ | with_reducible refine Bw.drewN ?_ _ | with_reducible refine bw_al ?_ _ | with_reducible refine Bw.then ?_ (by with_reducible assumption)))⟩
  by_cases q2 : validL nameB l = true
  case neg =>
    rw [Bool.not_eq_true] at q2
    rw [q1] at H1 ⊢
    rw [q2] at H2 ⊢
    rw [Bool.true_and, Bool.false_and, Bool.false_and]
    clear q1 q2 h1 h2 hl
    go_enter Tryd.func17, Tryd.ntmps17
    go_wp2_with fail
    refine wp_region_held_drew (S := fun w' => w'.cell? ⟨w.heap.size, 0, none⟩ = some (.int .i64 at') ∧ w'.cell? ⟨w.heap.size, 1, none⟩ = some (.bool scan) ∧ w'.cell? ⟨w.heap.size, 2, none⟩ = some (.bool neg) ∧ w'.cell? ⟨w.heap.size, 3, none⟩ = some (.bool care) ∧ w'.cell? ⟨w.heap.size, 4, none⟩ = some (.slice A1 tags.length c1) ∧ w'.cell? ⟨w.heap.size, 5, none⟩ = some (.slice A2 bar.length c2)) (by kernel_rfl) ?_ (fun hHeld => ?_)
    · exact K _ (by (repeat' first | with_reducible exact Below.refl _ _ | with_reducible assumption | with_reducible refine Bw.drew ?_ | with_reducible refine Bw.drewN ?_ _ | with_reducible refine bw_al ?_ _ | with_reducible refine Bw.then ?_ (by with_reducible assumption)))
    refine wpAnyH_take (i := 0) (oi := { dst := some 7, op := Go.Op.load 28 (Go.Operand.tmp 3), type := 28, pos := "ref.go:78", after := #[], guard := none }) (v := ?v11) rfl (by kernel_rfl) (by kernel_rfl) (by kernel_rfl) (fun _ _ _ h => h) (Or.inl ⟨by rfl, ?hy11⟩) (by assumption) ?_
    case hy11 => (intro w hSw; (try dsimp only at hSw); go_simp; try with_reducible rfl)
    try simp only [Act.put, List.setIfInBounds_toArray, List.set_cons_zero, List.set_cons_succ]
    refine wpAnyH_ready (rs := [1]) (by kernel_rfl) (by simp) ?_
    refine (AllReadyH.cons (i := 1) (o := { dst := some 8, op := Go.Op.call { callee := Go.Callee.value (Go.Operand.func 37), args := #[Go.Operand.tmp 7], argTypes := #[28] }, type := 4, pos := "ref.go:78", after := #[{ on := 0, ground := Go.Ground.data }], guard := none }) rfl (fun K' hK' => ?_) AllReadyH.nil)
    go_simp
    with_reducible refine (H1.out _ (by (repeat' first | with_reducible exact Below.refl _ _ | with_reducible assumption | with_reducible refine Bw.drew ?_ | with_reducible refine Bw.drewN ?_ _ | with_reducible refine bw_al ?_ _ | with_reducible refine Bw.then ?_ (by with_reducible assumption)))).mono ?_
    rintro e wA ⟨rfl, hbA⟩
    try dsimp only
    refine hK'.out _ _ ?_ (fun hHeld => ?_)
    · exact K _ (by (repeat' first | with_reducible exact Below.refl _ _ | with_reducible assumption | with_reducible refine Bw.drew ?_ | with_reducible refine Bw.drewN ?_ _ | with_reducible refine bw_al ?_ _ | with_reducible refine Bw.then ?_ (by with_reducible assumption)))
    clear hK' K'
    try simp only [Act.put, List.setIfInBounds_toArray, List.set_cons_zero, List.set_cons_succ]
    refine wpAnyH_take (i := 2) (oi := { dst := some 9, op := Go.Op.move (Go.Operand.tmp 8), type := 4, pos := "ref.go:78", after := #[{ on := 1, ground := Go.Ground.data }, { on := 1, ground := Go.Ground.chain }], guard := none }) (v := ?v12) rfl (by kernel_rfl) (by kernel_rfl) (by kernel_rfl) (fun _ _ _ h => h) (Or.inl ⟨by rfl, ?hy12⟩) (by assumption) ?_
    case hy12 => (intro w hSw; (try dsimp only at hSw); go_simp; try with_reducible rfl)
    try simp only [Act.put, List.setIfInBounds_toArray, List.set_cons_zero, List.set_cons_succ]
    refine wpAnyH_take (i := 3) (oi := { dst := some 10, op := Go.Op.move (Go.Operand.tmp 1), type := 29, pos := "ref.go:78", after := #[{ on := 2, ground := Go.Ground.guard }], guard := some (2, true) }) (v := ?v13) rfl (by kernel_rfl) (by kernel_rfl) (by kernel_rfl) (fun _ _ _ h => h) (Or.inl ⟨by rfl, ?hy13⟩) (by assumption) ?_
    case hy13 => (intro w hSw; (try dsimp only at hSw); go_simp; try with_reducible rfl)
    try simp only [Act.put, List.setIfInBounds_toArray, List.set_cons_zero, List.set_cons_succ]
    refine wpAnyH_ready (rs := [4]) (by kernel_rfl) (by simp) ?_
    refine (AllReadyH.cons (i := 4) (o := { dst := some 11, op := Go.Op.call { callee := Go.Callee.value (Go.Operand.func 38), args := #[Go.Operand.tmp 10], argTypes := #[29] }, type := 4, pos := "ref.go:78", after := #[{ on := 3, ground := Go.Ground.data }, { on := 2, ground := Go.Ground.chain }, { on := 2, ground := Go.Ground.guard }], guard := some (2, true) }) rfl (fun K' hK' => ?_) AllReadyH.nil)
    go_simp
    with_reducible refine (H2.out _ (by (repeat' first | with_reducible exact Below.refl _ _ | with_reducible assumption | with_reducible refine Bw.drew ?_ | with_reducible refine Bw.drewN ?_ _ | with_reducible refine bw_al ?_ _ | with_reducible refine Bw.then ?_ (by with_reducible assumption)))).mono ?_
    rintro e wB ⟨rfl, hbB⟩
    try dsimp only
    refine hK'.out _ _ ?_ (fun hHeld => ?_)
    · exact K _ (by (repeat' first | with_reducible exact Below.refl _ _ | with_reducible assumption | with_reducible refine Bw.drew ?_ | with_reducible refine Bw.drewN ?_ _ | with_reducible refine bw_al ?_ _ | with_reducible refine Bw.then ?_ (by with_reducible assumption)))
    clear hK' K'
    try simp only [Act.put, List.setIfInBounds_toArray, List.set_cons_zero, List.set_cons_succ]
    refine wpAnyH_take (i := 5) (oi := { dst := some 12, op := Go.Op.pick (Go.Operand.tmp 9) (Go.Operand.tmp 11) (Go.Operand.const (Go.Value.bool false)), type := 4, pos := "ref.go:78", after := #[{ on := 2, ground := Go.Ground.data }, { on := 4, ground := Go.Ground.data }], guard := none }) (v := ?v14) rfl (by kernel_rfl) (by kernel_rfl) (by kernel_rfl) (fun _ _ _ h => h) (Or.inl ⟨by rfl, ?hy14⟩) (by assumption) ?_
    case hy14 => (intro w hSw; (try dsimp only at hSw); go_simp; try with_reducible rfl)
    try simp only [Act.put, List.setIfInBounds_toArray, List.set_cons_zero, List.set_cons_succ]
    refine wpAnyH_take (i := 6) (oi := { dst := some 13, op := Go.Op.move (Go.Operand.tmp 12), type := 4, pos := "ref.go:78", after := #[{ on := 5, ground := Go.Ground.data }, { on := 4, ground := Go.Ground.chain }], guard := none }) (v := ?v15) rfl (by kernel_rfl) (by kernel_rfl) (by kernel_rfl) (fun _ _ _ h => h) (Or.inl ⟨by rfl, ?hy15⟩) (by assumption) ?_
    case hy15 => (intro w hSw; (try dsimp only at hSw); go_simp; try with_reducible rfl)
    try simp only [Act.put, List.setIfInBounds_toArray, List.set_cons_zero, List.set_cons_succ]
    refine wpAnyH_take (i := 7) (oi := { dst := some 14, op := Go.Op.move (Go.Operand.tmp 2), type := 3, pos := "ref.go:78", after := #[{ on := 6, ground := Go.Ground.guard }], guard := some (6, true) }) (v := undef) rfl (by kernel_rfl) (by kernel_rfl) (by kernel_rfl) (fun _ _ _ h => h) (Or.inr ⟨by rfl, rfl⟩) (by assumption) ?_
    try simp only [Act.put, List.setIfInBounds_toArray, List.set_cons_zero, List.set_cons_succ]
    refine wpAnyH_take (i := 8) (oi := { dst := some 15, op := Go.Op.binOp Go.BinOp.geq 3 (Go.Operand.tmp 14) (Go.Operand.const (Go.Value.int Go.IntKind.i64 0)) 3, type := 4, pos := "ref.go:78", after := #[{ on := 7, ground := Go.Ground.data }, { on := 6, ground := Go.Ground.guard }], guard := some (6, true) }) (v := undef) rfl (by kernel_rfl) (by kernel_rfl) (by kernel_rfl) (fun _ _ _ h => h) (Or.inr ⟨by rfl, rfl⟩) (by assumption) ?_
    try simp only [Act.put, List.setIfInBounds_toArray, List.set_cons_zero, List.set_cons_succ]
    refine wpAnyH_take (i := 9) (oi := { dst := some 16, op := Go.Op.pick (Go.Operand.tmp 13) (Go.Operand.tmp 15) (Go.Operand.const (Go.Value.bool false)), type := 4, pos := "ref.go:78", after := #[{ on := 6, ground := Go.Ground.data }, { on := 8, ground := Go.Ground.data }], guard := none }) (v := ?v16) rfl (by kernel_rfl) (by kernel_rfl) (by kernel_rfl) (fun _ _ _ h => h) (Or.inl ⟨by rfl, ?hy16⟩) (by assumption) ?_
    case hy16 => (intro w hSw; (try dsimp only at hSw); go_simp; try with_reducible rfl)
    try simp only [Act.put, List.setIfInBounds_toArray, List.set_cons_zero, List.set_cons_succ]
    refine wpAnyH_take (i := 10) (oi := { dst := some 17, op := Go.Op.move (Go.Operand.tmp 16), type := 4, pos := "ref.go:78", after := #[{ on := 9, ground := Go.Ground.data }, { on := 6, ground := Go.Ground.chain }], guard := none }) (v := ?v17) rfl (by kernel_rfl) (by kernel_rfl) (by kernel_rfl) (fun _ _ _ h => h) (Or.inl ⟨by rfl, ?hy17⟩) (by assumption) ?_
    case hy17 => (intro w hSw; (try dsimp only at hSw); go_simp; try with_reducible rfl)
    try simp only [Act.put, List.setIfInBounds_toArray, List.set_cons_zero, List.set_cons_succ]
    refine wpAnyH_take (i := 11) (oi := { dst := some 18, op := Go.Op.move (Go.Operand.tmp 2), type := 3, pos := "ref.go:78", after := #[{ on := 10, ground := Go.Ground.guard }], guard := some (10, true) }) (v := undef) rfl (by kernel_rfl) (by kernel_rfl) (by kernel_rfl) (fun _ _ _ h => h) (Or.inr ⟨by rfl, rfl⟩) (by assumption) ?_
    try simp only [Act.put, List.setIfInBounds_toArray, List.set_cons_zero, List.set_cons_succ]
    refine wpAnyH_take (i := 12) (oi := { dst := some 19, op := Go.Op.move (Go.Operand.tmp 1), type := 29, pos := "ref.go:78", after := #[{ on := 10, ground := Go.Ground.guard }], guard := some (10, true) }) (v := undef) rfl (by kernel_rfl) (by kernel_rfl) (by kernel_rfl) (fun _ _ _ h => h) (Or.inr ⟨by rfl, rfl⟩) (by assumption) ?_
    try simp only [Act.put, List.setIfInBounds_toArray, List.set_cons_zero, List.set_cons_succ]
    refine wpAnyH_take (i := 13) (oi := { dst := some 20, op := Go.Op.call { callee := Go.Callee.builtin Go.Builtin.len, args := #[Go.Operand.tmp 19], argTypes := #[29] }, type := 3, pos := "ref.go:78", after := #[{ on := 12, ground := Go.Ground.data }, { on := 10, ground := Go.Ground.guard }], guard := some (10, true) }) (v := undef) rfl (by kernel_rfl) (by kernel_rfl) (by kernel_rfl) (fun _ _ _ h => h) (Or.inr ⟨by rfl, rfl⟩) (by assumption) ?_
    try simp only [Act.put, List.setIfInBounds_toArray, List.set_cons_zero, List.set_cons_succ]
    refine wpAnyH_take (i := 14) (oi := { dst := some 21, op := Go.Op.binOp Go.BinOp.lss 3 (Go.Operand.tmp 18) (Go.Operand.tmp 20) 3, type := 4, pos := "ref.go:78", after := #[{ on := 11, ground := Go.Ground.data }, { on := 13, ground := Go.Ground.data }, { on := 10, ground := Go.Ground.guard }], guard := some (10, true) }) (v := undef) rfl (by kernel_rfl) (by kernel_rfl) (by kernel_rfl) (fun _ _ _ h => h) (Or.inr ⟨by rfl, rfl⟩) (by assumption) ?_
    try simp only [Act.put, List.setIfInBounds_toArray, List.set_cons_zero, List.set_cons_succ]
    refine wpAnyH_take (i := 15) (oi := { dst := some 22, op := Go.Op.pick (Go.Operand.tmp 17) (Go.Operand.tmp 21) (Go.Operand.const (Go.Value.bool false)), type := 4, pos := "ref.go:78", after := #[{ on := 10, ground := Go.Ground.data }, { on := 14, ground := Go.Ground.data }], guard := none }) (v := ?v18) rfl (by kernel_rfl) (by kernel_rfl) (by kernel_rfl) (fun _ _ _ h => h) (Or.inl ⟨by rfl, ?hy18⟩) (by assumption) ?_
    case hy18 => (intro w hSw; (try dsimp only at hSw); go_simp; try with_reducible rfl)
    try simp only [Act.put, List.setIfInBounds_toArray, List.set_cons_zero, List.set_cons_succ]
    refine wpAnyH_take (i := 16) (oi := { dst := some 23, op := Go.Op.move (Go.Operand.tmp 22), type := 4, pos := "ref.go:78", after := #[{ on := 15, ground := Go.Ground.data }, { on := 10, ground := Go.Ground.chain }], guard := none }) (v := ?v19) rfl (by kernel_rfl) (by kernel_rfl) (by kernel_rfl) (fun _ _ _ h => h) (Or.inl ⟨by rfl, ?hy19⟩) (by assumption) ?_
    case hy19 => (intro w hSw; (try dsimp only at hSw); go_simp; try with_reducible rfl)
    try simp only [Act.put, List.setIfInBounds_toArray, List.set_cons_zero, List.set_cons_succ]
    refine wpAnyH_take (i := 17) (oi := { dst := some 24, op := Go.Op.load 28 (Go.Operand.tmp 3), type := 28, pos := "ref.go:78", after := #[{ on := 16, ground := Go.Ground.guard }], guard := some (16, true) }) (v := undef) rfl (by kernel_rfl) (by kernel_rfl) (by kernel_rfl) (fun _ _ _ h => h) (Or.inr ⟨by rfl, rfl⟩) (by assumption) ?_
    try simp only [Act.put, List.setIfInBounds_toArray, List.set_cons_zero, List.set_cons_succ]
    refine wpAnyH_take (i := 18) (oi := { dst := some 25, op := Go.Op.move (Go.Operand.tmp 1), type := 29, pos := "ref.go:78", after := #[{ on := 16, ground := Go.Ground.guard }], guard := some (16, true) }) (v := undef) rfl (by kernel_rfl) (by kernel_rfl) (by kernel_rfl) (fun _ _ _ h => h) (Or.inr ⟨by rfl, rfl⟩) (by assumption) ?_
    try simp only [Act.put, List.setIfInBounds_toArray, List.set_cons_zero, List.set_cons_succ]
    refine wpAnyH_take (i := 19) (oi := { dst := some 26, op := Go.Op.move (Go.Operand.tmp 2), type := 3, pos := "ref.go:78", after := #[{ on := 16, ground := Go.Ground.guard }], guard := some (16, true) }) (v := undef) rfl (by kernel_rfl) (by kernel_rfl) (by kernel_rfl) (fun _ _ _ h => h) (Or.inr ⟨by rfl, rfl⟩) (by assumption) ?_
    try simp only [Act.put, List.setIfInBounds_toArray, List.set_cons_zero, List.set_cons_succ]
    refine wpAnyH_take (i := 20) (oi := { dst := some 27, op := Go.Op.call { callee := Go.Callee.value (Go.Operand.func 39), args := #[Go.Operand.tmp 24, Go.Operand.tmp 25, Go.Operand.tmp 26], argTypes := #[28, 29, 3] }, type := 4, pos := "ref.go:78", after := #[{ on := 17, ground := Go.Ground.data }, { on := 18, ground := Go.Ground.data }, { on := 19, ground := Go.Ground.data }, { on := 16, ground := Go.Ground.chain }, { on := 16, ground := Go.Ground.guard }], guard := some (16, true) }) (v := undef) rfl (by kernel_rfl) (by kernel_rfl) (by kernel_rfl) (fun _ _ _ h => h) (Or.inr ⟨by rfl, rfl⟩) (by assumption) ?_
    try simp only [Act.put, List.setIfInBounds_toArray, List.set_cons_zero, List.set_cons_succ]
    refine wpAnyH_take (i := 21) (oi := { dst := some 28, op := Go.Op.fieldAddr 28 (Go.Operand.tmp 3) 2, type := 0, pos := "ref.go:78", after := #[{ on := 16, ground := Go.Ground.guard }], guard := some (16, true) }) (v := undef) rfl (by kernel_rfl) (by kernel_rfl) (by kernel_rfl) (fun _ _ _ h => h) (Or.inr ⟨by rfl, rfl⟩) (by assumption) ?_
    try simp only [Act.put, List.setIfInBounds_toArray, List.set_cons_zero, List.set_cons_succ]
    refine wpAnyH_take (i := 22) (oi := { dst := some 29, op := Go.Op.load 4 (Go.Operand.tmp 28), type := 4, pos := "ref.go:78", after := #[{ on := 21, ground := Go.Ground.data }, { on := 16, ground := Go.Ground.guard }], guard := some (16, true) }) (v := undef) rfl (by kernel_rfl) (by kernel_rfl) (by kernel_rfl) (fun _ _ _ h => h) (Or.inr ⟨by rfl, rfl⟩) (by assumption) ?_
    try simp only [Act.put, List.setIfInBounds_toArray, List.set_cons_zero, List.set_cons_succ]
    refine wpAnyH_take (i := 23) (oi := { dst := some 30, op := Go.Op.binOp Go.BinOp.neq 4 (Go.Operand.tmp 27) (Go.Operand.tmp 29) 4, type := 4, pos := "ref.go:78", after := #[{ on := 20, ground := Go.Ground.data }, { on := 22, ground := Go.Ground.data }, { on := 16, ground := Go.Ground.guard }], guard := some (16, true) }) (v := undef) rfl (by kernel_rfl) (by kernel_rfl) (by kernel_rfl) (fun _ _ _ h => h) (Or.inr ⟨by rfl, rfl⟩) (by assumption) ?_
    try simp only [Act.put, List.setIfInBounds_toArray, List.set_cons_zero, List.set_cons_succ]
    refine wpAnyH_take (i := 24) (oi := { dst := some 31, op := Go.Op.pick (Go.Operand.tmp 23) (Go.Operand.tmp 30) (Go.Operand.const (Go.Value.bool false)), type := 4, pos := "ref.go:78", after := #[{ on := 16, ground := Go.Ground.data }, { on := 23, ground := Go.Ground.data }], guard := none }) (v := ?v20) rfl (by kernel_rfl) (by kernel_rfl) (by kernel_rfl) (fun _ _ _ h => h) (Or.inl ⟨by rfl, ?hy20⟩) (by assumption) ?_
    case hy20 => (intro w hSw; (try dsimp only at hSw); go_simp; try with_reducible rfl)
    try simp only [Act.put, List.setIfInBounds_toArray, List.set_cons_zero, List.set_cons_succ]
    refine wpAnyH_take (i := 25) (oi := { dst := some 6, op := Go.Op.assign (Go.Operand.tmp 31), type := 4, pos := "ref.go:78", after := #[{ on := 24, ground := Go.Ground.data }, { on := 20, ground := Go.Ground.chain }, { on := 0, ground := Go.Ground.phase }, { on := 1, ground := Go.Ground.phase }, { on := 2, ground := Go.Ground.phase }, { on := 3, ground := Go.Ground.phase }, { on := 4, ground := Go.Ground.phase }, { on := 5, ground := Go.Ground.phase }, { on := 6, ground := Go.Ground.phase }, { on := 7, ground := Go.Ground.phase }, { on := 8, ground := Go.Ground.phase }, { on := 9, ground := Go.Ground.phase }, { on := 10, ground := Go.Ground.phase }, { on := 11, ground := Go.Ground.phase }, { on := 12, ground := Go.Ground.phase }, { on := 13, ground := Go.Ground.phase }, { on := 14, ground := Go.Ground.phase }, { on := 15, ground := Go.Ground.phase }, { on := 16, ground := Go.Ground.phase }, { on := 17, ground := Go.Ground.phase }, { on := 18, ground := Go.Ground.phase }, { on := 19, ground := Go.Ground.phase }, { on := 20, ground := Go.Ground.phase }, { on := 21, ground := Go.Ground.phase }, { on := 22, ground := Go.Ground.phase }, { on := 23, ground := Go.Ground.phase }, { on := 24, ground := Go.Ground.phase }], guard := none }) (v := ?v21) rfl (by kernel_rfl) (by kernel_rfl) (by kernel_rfl) (fun _ _ _ h => h) (Or.inl ⟨by rfl, ?hy21⟩) (by assumption) ?_
    case hy21 => (intro w hSw; (try dsimp only at hSw); go_simp; try with_reducible rfl)
    try simp only [Act.put, List.setIfInBounds_toArray, List.set_cons_zero, List.set_cons_succ]
    refine wpAnyH_done (by kernel_rfl) ?_ _
    go_wp2_with fail
    go_ret
    exact ⟨ret_b rfl, hb1.then (by (repeat' first | with_reducible exact Below.refl _ _ | with_reducible assumption | with_reducible refine Bw.drew ?_ | with_reducible refine Bw.drewN ?_ _ | with_reducible refine bw_al ?_ _ | with_reducible refine Bw.then ?_ (by with_reducible assumption)))⟩
  have ha := validT_at q1
  have hm := validL_len q2
  rw [q1] at H1 ⊢
  rw [q2] at H2 ⊢
  rw [Bool.true_and, Bool.true_and]
  clear q1 q2
  by_cases hi0 : 0 ≤ i
  case neg =>
    have e : inL l i = false := by unfold inL; rw [decide_eq_false hi0]; rfl
    have hd0 : decide (0 ≤ i) = false := decide_eq_false hi0
    have hd1 : i < 0 := by omega
    rw [e, Bool.false_and]
    clear e h1 h2 hl
    go_enter Tryd.func17, Tryd.ntmps17
    go_wp2_with fail
    refine wp_region_held_drew (S := fun w' => w'.cell? ⟨w.heap.size, 0, none⟩ = some (.int .i64 at') ∧ w'.cell? ⟨w.heap.size, 1, none⟩ = some (.bool scan) ∧ w'.cell? ⟨w.heap.size, 2, none⟩ = some (.bool neg) ∧ w'.cell? ⟨w.heap.size, 3, none⟩ = some (.bool care) ∧ w'.cell? ⟨w.heap.size, 4, none⟩ = some (.slice A1 tags.length c1) ∧ w'.cell? ⟨w.heap.size, 5, none⟩ = some (.slice A2 bar.length c2)) (by kernel_rfl) ?_ (fun hHeld => ?_)
    · exact K _ (by (repeat' first | with_reducible exact Below.refl _ _ | with_reducible assumption | with_reducible refine Bw.drew ?_ | with_reducible refine Bw.drewN ?_ _ | with_reducible refine bw_al ?_ _ | with_reducible refine Bw.then ?_ (by with_reducible assumption)))
    refine wpAnyH_take (i := 0) (oi := { dst := some 7, op := Go.Op.load 28 (Go.Operand.tmp 3), type := 28, pos := "ref.go:78", after := #[], guard := none }) (v := ?v22) rfl (by kernel_rfl) (by kernel_rfl) (by kernel_rfl) (fun _ _ _ h => h) (Or.inl ⟨by rfl, ?hy22⟩) (by assumption) ?_
    case hy22 => (intro w hSw; (try dsimp only at hSw); go_simp; try with_reducible rfl)
    try simp only [Act.put, List.setIfInBounds_toArray, List.set_cons_zero, List.set_cons_succ]
    refine wpAnyH_ready (rs := [1]) (by kernel_rfl) (by simp) ?_
    refine (AllReadyH.cons (i := 1) (o := { dst := some 8, op := Go.Op.call { callee := Go.Callee.value (Go.Operand.func 37), args := #[Go.Operand.tmp 7], argTypes := #[28] }, type := 4, pos := "ref.go:78", after := #[{ on := 0, ground := Go.Ground.data }], guard := none }) rfl (fun K' hK' => ?_) AllReadyH.nil)
    go_simp
    with_reducible refine (H1.out _ (by (repeat' first | with_reducible exact Below.refl _ _ | with_reducible assumption | with_reducible refine Bw.drew ?_ | with_reducible refine Bw.drewN ?_ _ | with_reducible refine bw_al ?_ _ | with_reducible refine Bw.then ?_ (by with_reducible assumption)))).mono ?_
    rintro e wA ⟨rfl, hbA⟩
    try dsimp only
    refine hK'.out _ _ ?_ (fun hHeld => ?_)
    · exact K _ (by (repeat' first | with_reducible exact Below.refl _ _ | with_reducible assumption | with_reducible refine Bw.drew ?_ | with_reducible refine Bw.drewN ?_ _ | with_reducible refine bw_al ?_ _ | with_reducible refine Bw.then ?_ (by with_reducible assumption)))
    clear hK' K'
    try simp only [Act.put, List.setIfInBounds_toArray, List.set_cons_zero, List.set_cons_succ]
    refine wpAnyH_take (i := 2) (oi := { dst := some 9, op := Go.Op.move (Go.Operand.tmp 8), type := 4, pos := "ref.go:78", after := #[{ on := 1, ground := Go.Ground.data }, { on := 1, ground := Go.Ground.chain }], guard := none }) (v := ?v23) rfl (by kernel_rfl) (by kernel_rfl) (by kernel_rfl) (fun _ _ _ h => h) (Or.inl ⟨by rfl, ?hy23⟩) (by assumption) ?_
    case hy23 => (intro w hSw; (try dsimp only at hSw); go_simp; try with_reducible rfl)
    try simp only [Act.put, List.setIfInBounds_toArray, List.set_cons_zero, List.set_cons_succ]
    refine wpAnyH_take (i := 3) (oi := { dst := some 10, op := Go.Op.move (Go.Operand.tmp 1), type := 29, pos := "ref.go:78", after := #[{ on := 2, ground := Go.Ground.guard }], guard := some (2, true) }) (v := ?v24) rfl (by kernel_rfl) (by kernel_rfl) (by kernel_rfl) (fun _ _ _ h => h) (Or.inl ⟨by rfl, ?hy24⟩) (by assumption) ?_
    case hy24 => (intro w hSw; (try dsimp only at hSw); go_simp; try with_reducible rfl)
    try simp only [Act.put, List.setIfInBounds_toArray, List.set_cons_zero, List.set_cons_succ]
    refine wpAnyH_ready (rs := [4]) (by kernel_rfl) (by simp) ?_
    refine (AllReadyH.cons (i := 4) (o := { dst := some 11, op := Go.Op.call { callee := Go.Callee.value (Go.Operand.func 38), args := #[Go.Operand.tmp 10], argTypes := #[29] }, type := 4, pos := "ref.go:78", after := #[{ on := 3, ground := Go.Ground.data }, { on := 2, ground := Go.Ground.chain }, { on := 2, ground := Go.Ground.guard }], guard := some (2, true) }) rfl (fun K' hK' => ?_) AllReadyH.nil)
    go_simp
    with_reducible refine (H2.out _ (by (repeat' first | with_reducible exact Below.refl _ _ | with_reducible assumption | with_reducible refine Bw.drew ?_ | with_reducible refine Bw.drewN ?_ _ | with_reducible refine bw_al ?_ _ | with_reducible refine Bw.then ?_ (by with_reducible assumption)))).mono ?_
    rintro e wB ⟨rfl, hbB⟩
    try dsimp only
    refine hK'.out _ _ ?_ (fun hHeld => ?_)
    · exact K _ (by (repeat' first | with_reducible exact Below.refl _ _ | with_reducible assumption | with_reducible refine Bw.drew ?_ | with_reducible refine Bw.drewN ?_ _ | with_reducible refine bw_al ?_ _ | with_reducible refine Bw.then ?_ (by with_reducible assumption)))
    clear hK' K'
    try simp only [Act.put, List.setIfInBounds_toArray, List.set_cons_zero, List.set_cons_succ]
    refine wpAnyH_take (i := 5) (oi := { dst := some 12, op := Go.Op.pick (Go.Operand.tmp 9) (Go.Operand.tmp 11) (Go.Operand.const (Go.Value.bool false)), type := 4, pos := "ref.go:78", after := #[{ on := 2, ground := Go.Ground.data }, { on := 4, ground := Go.Ground.data }], guard := none }) (v := ?v25) rfl (by kernel_rfl) (by kernel_rfl) (by kernel_rfl) (fun _ _ _ h => h) (Or.inl ⟨by rfl, ?hy25⟩) (by assumption) ?_
    case hy25 => (intro w hSw; (try dsimp only at hSw); go_simp; try with_reducible rfl)
    try simp only [Act.put, List.setIfInBounds_toArray, List.set_cons_zero, List.set_cons_succ]
    refine wpAnyH_take (i := 6) (oi := { dst := some 13, op := Go.Op.move (Go.Operand.tmp 12), type := 4, pos := "ref.go:78", after := #[{ on := 5, ground := Go.Ground.data }, { on := 4, ground := Go.Ground.chain }], guard := none }) (v := ?v26) rfl (by kernel_rfl) (by kernel_rfl) (by kernel_rfl) (fun _ _ _ h => h) (Or.inl ⟨by rfl, ?hy26⟩) (by assumption) ?_
    case hy26 => (intro w hSw; (try dsimp only at hSw); go_simp; try with_reducible rfl)
    try simp only [Act.put, List.setIfInBounds_toArray, List.set_cons_zero, List.set_cons_succ]
    refine wpAnyH_take (i := 7) (oi := { dst := some 14, op := Go.Op.move (Go.Operand.tmp 2), type := 3, pos := "ref.go:78", after := #[{ on := 6, ground := Go.Ground.guard }], guard := some (6, true) }) (v := ?v27) rfl (by kernel_rfl) (by kernel_rfl) (by kernel_rfl) (fun _ _ _ h => h) (Or.inl ⟨by rfl, ?hy27⟩) (by assumption) ?_
    case hy27 => (intro w hSw; (try dsimp only at hSw); go_simp; try with_reducible rfl)
    try simp only [Act.put, List.setIfInBounds_toArray, List.set_cons_zero, List.set_cons_succ]
    refine wpAnyH_take (i := 8) (oi := { dst := some 15, op := Go.Op.binOp Go.BinOp.geq 3 (Go.Operand.tmp 14) (Go.Operand.const (Go.Value.int Go.IntKind.i64 0)) 3, type := 4, pos := "ref.go:78", after := #[{ on := 7, ground := Go.Ground.data }, { on := 6, ground := Go.Ground.guard }], guard := some (6, true) }) (v := ?v28) rfl (by kernel_rfl) (by kernel_rfl) (by kernel_rfl) (fun _ _ _ h => h) (Or.inl ⟨by rfl, ?hy28⟩) (by assumption) ?_
    case hy28 => (intro w hSw; (try dsimp only at hSw); go_simp; try with_reducible rfl)
    try simp only [Act.put, List.setIfInBounds_toArray, List.set_cons_zero, List.set_cons_succ]
    refine wpAnyH_take (i := 9) (oi := { dst := some 16, op := Go.Op.pick (Go.Operand.tmp 13) (Go.Operand.tmp 15) (Go.Operand.const (Go.Value.bool false)), type := 4, pos := "ref.go:78", after := #[{ on := 6, ground := Go.Ground.data }, { on := 8, ground := Go.Ground.data }], guard := none }) (v := ?v29) rfl (by kernel_rfl) (by kernel_rfl) (by kernel_rfl) (fun _ _ _ h => h) (Or.inl ⟨by rfl, ?hy29⟩) (by assumption) ?_
    case hy29 => (intro w hSw; (try dsimp only at hSw); go_simp; try with_reducible rfl)
    try simp only [Act.put, List.setIfInBounds_toArray, List.set_cons_zero, List.set_cons_succ]
    refine wpAnyH_take (i := 10) (oi := { dst := some 17, op := Go.Op.move (Go.Operand.tmp 16), type := 4, pos := "ref.go:78", after := #[{ on := 9, ground := Go.Ground.data }, { on := 6, ground := Go.Ground.chain }], guard := none }) (v := ?v30) rfl (by kernel_rfl) (by kernel_rfl) (by kernel_rfl) (fun _ _ _ h => h) (Or.inl ⟨by rfl, ?hy30⟩) (by assumption) ?_
    case hy30 => (intro w hSw; (try dsimp only at hSw); go_simp; try with_reducible rfl)
    try simp only [Act.put, List.setIfInBounds_toArray, List.set_cons_zero, List.set_cons_succ]
    refine wpAnyH_take (i := 11) (oi := { dst := some 18, op := Go.Op.move (Go.Operand.tmp 2), type := 3, pos := "ref.go:78", after := #[{ on := 10, ground := Go.Ground.guard }], guard := some (10, true) }) (v := undef) rfl (by kernel_rfl) (by kernel_rfl) (by kernel_rfl) (fun _ _ _ h => h) (Or.inr ⟨by rfl, rfl⟩) (by assumption) ?_
    try simp only [Act.put, List.setIfInBounds_toArray, List.set_cons_zero, List.set_cons_succ]
    refine wpAnyH_take (i := 12) (oi := { dst := some 19, op := Go.Op.move (Go.Operand.tmp 1), type := 29, pos := "ref.go:78", after := #[{ on := 10, ground := Go.Ground.guard }], guard := some (10, true) }) (v := undef) rfl (by kernel_rfl) (by kernel_rfl) (by kernel_rfl) (fun _ _ _ h => h) (Or.inr ⟨by rfl, rfl⟩) (by assumption) ?_
    try simp only [Act.put, List.setIfInBounds_toArray, List.set_cons_zero, List.set_cons_succ]
    refine wpAnyH_take (i := 13) (oi := { dst := some 20, op := Go.Op.call { callee := Go.Callee.builtin Go.Builtin.len, args := #[Go.Operand.tmp 19], argTypes := #[29] }, type := 3, pos := "ref.go:78", after := #[{ on := 12, ground := Go.Ground.data }, { on := 10, ground := Go.Ground.guard }], guard := some (10, true) }) (v := undef) rfl (by kernel_rfl) (by kernel_rfl) (by kernel_rfl) (fun _ _ _ h => h) (Or.inr ⟨by rfl, rfl⟩) (by assumption) ?_
    try simp only [Act.put, List.setIfInBounds_toArray, List.set_cons_zero, List.set_cons_succ]
    refine wpAnyH_take (i := 14) (oi := { dst := some 21, op := Go.Op.binOp Go.BinOp.lss 3 (Go.Operand.tmp 18) (Go.Operand.tmp 20) 3, type := 4, pos := "ref.go:78", after := #[{ on := 11, ground := Go.Ground.data }, { on := 13, ground := Go.Ground.data }, { on := 10, ground := Go.Ground.guard }], guard := some (10, true) }) (v := undef) rfl (by kernel_rfl) (by kernel_rfl) (by kernel_rfl) (fun _ _ _ h => h) (Or.inr ⟨by rfl, rfl⟩) (by assumption) ?_
    try simp only [Act.put, List.setIfInBounds_toArray, List.set_cons_zero, List.set_cons_succ]
    refine wpAnyH_take (i := 15) (oi := { dst := some 22, op := Go.Op.pick (Go.Operand.tmp 17) (Go.Operand.tmp 21) (Go.Operand.const (Go.Value.bool false)), type := 4, pos := "ref.go:78", after := #[{ on := 10, ground := Go.Ground.data }, { on := 14, ground := Go.Ground.data }], guard := none }) (v := ?v31) rfl (by kernel_rfl) (by kernel_rfl) (by kernel_rfl) (fun _ _ _ h => h) (Or.inl ⟨by rfl, ?hy31⟩) (by assumption) ?_
    case hy31 => (intro w hSw; (try dsimp only at hSw); go_simp; try with_reducible rfl)
    try simp only [Act.put, List.setIfInBounds_toArray, List.set_cons_zero, List.set_cons_succ]
    refine wpAnyH_take (i := 16) (oi := { dst := some 23, op := Go.Op.move (Go.Operand.tmp 22), type := 4, pos := "ref.go:78", after := #[{ on := 15, ground := Go.Ground.data }, { on := 10, ground := Go.Ground.chain }], guard := none }) (v := ?v32) rfl (by kernel_rfl) (by kernel_rfl) (by kernel_rfl) (fun _ _ _ h => h) (Or.inl ⟨by rfl, ?hy32⟩) (by assumption) ?_
    case hy32 => (intro w hSw; (try dsimp only at hSw); go_simp; try with_reducible rfl)
    try simp only [Act.put, List.setIfInBounds_toArray, List.set_cons_zero, List.set_cons_succ]
    refine wpAnyH_take (i := 17) (oi := { dst := some 24, op := Go.Op.load 28 (Go.Operand.tmp 3), type := 28, pos := "ref.go:78", after := #[{ on := 16, ground := Go.Ground.guard }], guard := some (16, true) }) (v := undef) rfl (by kernel_rfl) (by kernel_rfl) (by kernel_rfl) (fun _ _ _ h => h) (Or.inr ⟨by rfl, rfl⟩) (by assumption) ?_
    try simp only [Act.put, List.setIfInBounds_toArray, List.set_cons_zero, List.set_cons_succ]
    refine wpAnyH_take (i := 18) (oi := { dst := some 25, op := Go.Op.move (Go.Operand.tmp 1), type := 29, pos := "ref.go:78", after := #[{ on := 16, ground := Go.Ground.guard }], guard := some (16, true) }) (v := undef) rfl (by kernel_rfl) (by kernel_rfl) (by kernel_rfl) (fun _ _ _ h => h) (Or.inr ⟨by rfl, rfl⟩) (by assumption) ?_
    try simp only [Act.put, List.setIfInBounds_toArray, List.set_cons_zero, List.set_cons_succ]
    refine wpAnyH_take (i := 19) (oi := { dst := some 26, op := Go.Op.move (Go.Operand.tmp 2), type := 3, pos := "ref.go:78", after := #[{ on := 16, ground := Go.Ground.guard }], guard := some (16, true) }) (v := undef) rfl (by kernel_rfl) (by kernel_rfl) (by kernel_rfl) (fun _ _ _ h => h) (Or.inr ⟨by rfl, rfl⟩) (by assumption) ?_
    try simp only [Act.put, List.setIfInBounds_toArray, List.set_cons_zero, List.set_cons_succ]
    refine wpAnyH_take (i := 20) (oi := { dst := some 27, op := Go.Op.call { callee := Go.Callee.value (Go.Operand.func 39), args := #[Go.Operand.tmp 24, Go.Operand.tmp 25, Go.Operand.tmp 26], argTypes := #[28, 29, 3] }, type := 4, pos := "ref.go:78", after := #[{ on := 17, ground := Go.Ground.data }, { on := 18, ground := Go.Ground.data }, { on := 19, ground := Go.Ground.data }, { on := 16, ground := Go.Ground.chain }, { on := 16, ground := Go.Ground.guard }], guard := some (16, true) }) (v := undef) rfl (by kernel_rfl) (by kernel_rfl) (by kernel_rfl) (fun _ _ _ h => h) (Or.inr ⟨by rfl, rfl⟩) (by assumption) ?_
    try simp only [Act.put, List.setIfInBounds_toArray, List.set_cons_zero, List.set_cons_succ]
    refine wpAnyH_take (i := 21) (oi := { dst := some 28, op := Go.Op.fieldAddr 28 (Go.Operand.tmp 3) 2, type := 0, pos := "ref.go:78", after := #[{ on := 16, ground := Go.Ground.guard }], guard := some (16, true) }) (v := undef) rfl (by kernel_rfl) (by kernel_rfl) (by kernel_rfl) (fun _ _ _ h => h) (Or.inr ⟨by rfl, rfl⟩) (by assumption) ?_
    try simp only [Act.put, List.setIfInBounds_toArray, List.set_cons_zero, List.set_cons_succ]
    refine wpAnyH_take (i := 22) (oi := { dst := some 29, op := Go.Op.load 4 (Go.Operand.tmp 28), type := 4, pos := "ref.go:78", after := #[{ on := 21, ground := Go.Ground.data }, { on := 16, ground := Go.Ground.guard }], guard := some (16, true) }) (v := undef) rfl (by kernel_rfl) (by kernel_rfl) (by kernel_rfl) (fun _ _ _ h => h) (Or.inr ⟨by rfl, rfl⟩) (by assumption) ?_
    try simp only [Act.put, List.setIfInBounds_toArray, List.set_cons_zero, List.set_cons_succ]
    refine wpAnyH_take (i := 23) (oi := { dst := some 30, op := Go.Op.binOp Go.BinOp.neq 4 (Go.Operand.tmp 27) (Go.Operand.tmp 29) 4, type := 4, pos := "ref.go:78", after := #[{ on := 20, ground := Go.Ground.data }, { on := 22, ground := Go.Ground.data }, { on := 16, ground := Go.Ground.guard }], guard := some (16, true) }) (v := undef) rfl (by kernel_rfl) (by kernel_rfl) (by kernel_rfl) (fun _ _ _ h => h) (Or.inr ⟨by rfl, rfl⟩) (by assumption) ?_
    try simp only [Act.put, List.setIfInBounds_toArray, List.set_cons_zero, List.set_cons_succ]
    refine wpAnyH_take (i := 24) (oi := { dst := some 31, op := Go.Op.pick (Go.Operand.tmp 23) (Go.Operand.tmp 30) (Go.Operand.const (Go.Value.bool false)), type := 4, pos := "ref.go:78", after := #[{ on := 16, ground := Go.Ground.data }, { on := 23, ground := Go.Ground.data }], guard := none }) (v := ?v33) rfl (by kernel_rfl) (by kernel_rfl) (by kernel_rfl) (fun _ _ _ h => h) (Or.inl ⟨by rfl, ?hy33⟩) (by assumption) ?_
    case hy33 => (intro w hSw; (try dsimp only at hSw); go_simp; try with_reducible rfl)
    try simp only [Act.put, List.setIfInBounds_toArray, List.set_cons_zero, List.set_cons_succ]
    refine wpAnyH_take (i := 25) (oi := { dst := some 6, op := Go.Op.assign (Go.Operand.tmp 31), type := 4, pos := "ref.go:78", after := #[{ on := 24, ground := Go.Ground.data }, { on := 20, ground := Go.Ground.chain }, { on := 0, ground := Go.Ground.phase }, { on := 1, ground := Go.Ground.phase }, { on := 2, ground := Go.Ground.phase }, { on := 3, ground := Go.Ground.phase }, { on := 4, ground := Go.Ground.phase }, { on := 5, ground := Go.Ground.phase }, { on := 6, ground := Go.Ground.phase }, { on := 7, ground := Go.Ground.phase }, { on := 8, ground := Go.Ground.phase }, { on := 9, ground := Go.Ground.phase }, { on := 10, ground := Go.Ground.phase }, { on := 11, ground := Go.Ground.phase }, { on := 12, ground := Go.Ground.phase }, { on := 13, ground := Go.Ground.phase }, { on := 14, ground := Go.Ground.phase }, { on := 15, ground := Go.Ground.phase }, { on := 16, ground := Go.Ground.phase }, { on := 17, ground := Go.Ground.phase }, { on := 18, ground := Go.Ground.phase }, { on := 19, ground := Go.Ground.phase }, { on := 20, ground := Go.Ground.phase }, { on := 21, ground := Go.Ground.phase }, { on := 22, ground := Go.Ground.phase }, { on := 23, ground := Go.Ground.phase }, { on := 24, ground := Go.Ground.phase }], guard := none }) (v := ?v34) rfl (by kernel_rfl) (by kernel_rfl) (by kernel_rfl) (fun _ _ _ h => h) (Or.inl ⟨by rfl, ?hy34⟩) (by assumption) ?_
    case hy34 => (intro w hSw; (try dsimp only at hSw); go_simp; try with_reducible rfl)
    try simp only [Act.put, List.setIfInBounds_toArray, List.set_cons_zero, List.set_cons_succ]
    refine wpAnyH_done (by kernel_rfl) ?_ _
    go_wp2_with fail
    go_ret
    exact ⟨ret_b rfl, hb1.then (by (repeat' first | with_reducible exact Below.refl _ _ | with_reducible assumption | with_reducible refine Bw.drew ?_ | with_reducible refine Bw.drewN ?_ _ | with_reducible refine bw_al ?_ _ | with_reducible refine Bw.then ?_ (by with_reducible assumption)))⟩
  by_cases hi1 : i < l.length
  case neg =>
    have e : inL l i = false := by unfold inL; rw [decide_eq_false hi1, Bool.and_false]
    have hd0 : decide (i < (l.length : Int)) = false := decide_eq_false hi1
    have hd1 : (l.length : Int) ≤ i := by omega
    rw [e, Bool.false_and]
    clear e h1 h2 hl
    go_enter Tryd.func17, Tryd.ntmps17
    go_wp2_with fail
    refine wp_region_held_drew (S := fun w' => w'.cell? ⟨w.heap.size, 0, none⟩ = some (.int .i64 at') ∧ w'.cell? ⟨w.heap.size, 1, none⟩ = some (.bool scan) ∧ w'.cell? ⟨w.heap.size, 2, none⟩ = some (.bool neg) ∧ w'.cell? ⟨w.heap.size, 3, none⟩ = some (.bool care) ∧ w'.cell? ⟨w.heap.size, 4, none⟩ = some (.slice A1 tags.length c1) ∧ w'.cell? ⟨w.heap.size, 5, none⟩ = some (.slice A2 bar.length c2)) (by kernel_rfl) ?_ (fun hHeld => ?_)
    · exact K _ (by (repeat' first | with_reducible exact Below.refl _ _ | with_reducible assumption | with_reducible refine Bw.drew ?_ | with_reducible refine Bw.drewN ?_ _ | with_reducible refine bw_al ?_ _ | with_reducible refine Bw.then ?_ (by with_reducible assumption)))
    refine wpAnyH_take (i := 0) (oi := { dst := some 7, op := Go.Op.load 28 (Go.Operand.tmp 3), type := 28, pos := "ref.go:78", after := #[], guard := none }) (v := ?v35) rfl (by kernel_rfl) (by kernel_rfl) (by kernel_rfl) (fun _ _ _ h => h) (Or.inl ⟨by rfl, ?hy35⟩) (by assumption) ?_
    case hy35 => (intro w hSw; (try dsimp only at hSw); go_simp; try with_reducible rfl)
    try simp only [Act.put, List.setIfInBounds_toArray, List.set_cons_zero, List.set_cons_succ]
    refine wpAnyH_ready (rs := [1]) (by kernel_rfl) (by simp) ?_
    refine (AllReadyH.cons (i := 1) (o := { dst := some 8, op := Go.Op.call { callee := Go.Callee.value (Go.Operand.func 37), args := #[Go.Operand.tmp 7], argTypes := #[28] }, type := 4, pos := "ref.go:78", after := #[{ on := 0, ground := Go.Ground.data }], guard := none }) rfl (fun K' hK' => ?_) AllReadyH.nil)
    go_simp
    with_reducible refine (H1.out _ (by (repeat' first | with_reducible exact Below.refl _ _ | with_reducible assumption | with_reducible refine Bw.drew ?_ | with_reducible refine Bw.drewN ?_ _ | with_reducible refine bw_al ?_ _ | with_reducible refine Bw.then ?_ (by with_reducible assumption)))).mono ?_
    rintro e wA ⟨rfl, hbA⟩
    try dsimp only
    refine hK'.out _ _ ?_ (fun hHeld => ?_)
    · exact K _ (by (repeat' first | with_reducible exact Below.refl _ _ | with_reducible assumption | with_reducible refine Bw.drew ?_ | with_reducible refine Bw.drewN ?_ _ | with_reducible refine bw_al ?_ _ | with_reducible refine Bw.then ?_ (by with_reducible assumption)))
    clear hK' K'
    try simp only [Act.put, List.setIfInBounds_toArray, List.set_cons_zero, List.set_cons_succ]
    refine wpAnyH_take (i := 2) (oi := { dst := some 9, op := Go.Op.move (Go.Operand.tmp 8), type := 4, pos := "ref.go:78", after := #[{ on := 1, ground := Go.Ground.data }, { on := 1, ground := Go.Ground.chain }], guard := none }) (v := ?v36) rfl (by kernel_rfl) (by kernel_rfl) (by kernel_rfl) (fun _ _ _ h => h) (Or.inl ⟨by rfl, ?hy36⟩) (by assumption) ?_
    case hy36 => (intro w hSw; (try dsimp only at hSw); go_simp; try with_reducible rfl)
    try simp only [Act.put, List.setIfInBounds_toArray, List.set_cons_zero, List.set_cons_succ]
    refine wpAnyH_take (i := 3) (oi := { dst := some 10, op := Go.Op.move (Go.Operand.tmp 1), type := 29, pos := "ref.go:78", after := #[{ on := 2, ground := Go.Ground.guard }], guard := some (2, true) }) (v := ?v37) rfl (by kernel_rfl) (by kernel_rfl) (by kernel_rfl) (fun _ _ _ h => h) (Or.inl ⟨by rfl, ?hy37⟩) (by assumption) ?_
    case hy37 => (intro w hSw; (try dsimp only at hSw); go_simp; try with_reducible rfl)
    try simp only [Act.put, List.setIfInBounds_toArray, List.set_cons_zero, List.set_cons_succ]
    refine wpAnyH_ready (rs := [4]) (by kernel_rfl) (by simp) ?_
    refine (AllReadyH.cons (i := 4) (o := { dst := some 11, op := Go.Op.call { callee := Go.Callee.value (Go.Operand.func 38), args := #[Go.Operand.tmp 10], argTypes := #[29] }, type := 4, pos := "ref.go:78", after := #[{ on := 3, ground := Go.Ground.data }, { on := 2, ground := Go.Ground.chain }, { on := 2, ground := Go.Ground.guard }], guard := some (2, true) }) rfl (fun K' hK' => ?_) AllReadyH.nil)
    go_simp
    with_reducible refine (H2.out _ (by (repeat' first | with_reducible exact Below.refl _ _ | with_reducible assumption | with_reducible refine Bw.drew ?_ | with_reducible refine Bw.drewN ?_ _ | with_reducible refine bw_al ?_ _ | with_reducible refine Bw.then ?_ (by with_reducible assumption)))).mono ?_
    rintro e wB ⟨rfl, hbB⟩
    try dsimp only
    refine hK'.out _ _ ?_ (fun hHeld => ?_)
    · exact K _ (by (repeat' first | with_reducible exact Below.refl _ _ | with_reducible assumption | with_reducible refine Bw.drew ?_ | with_reducible refine Bw.drewN ?_ _ | with_reducible refine bw_al ?_ _ | with_reducible refine Bw.then ?_ (by with_reducible assumption)))
    clear hK' K'
    try simp only [Act.put, List.setIfInBounds_toArray, List.set_cons_zero, List.set_cons_succ]
    refine wpAnyH_take (i := 5) (oi := { dst := some 12, op := Go.Op.pick (Go.Operand.tmp 9) (Go.Operand.tmp 11) (Go.Operand.const (Go.Value.bool false)), type := 4, pos := "ref.go:78", after := #[{ on := 2, ground := Go.Ground.data }, { on := 4, ground := Go.Ground.data }], guard := none }) (v := ?v38) rfl (by kernel_rfl) (by kernel_rfl) (by kernel_rfl) (fun _ _ _ h => h) (Or.inl ⟨by rfl, ?hy38⟩) (by assumption) ?_
    case hy38 => (intro w hSw; (try dsimp only at hSw); go_simp; try with_reducible rfl)
    try simp only [Act.put, List.setIfInBounds_toArray, List.set_cons_zero, List.set_cons_succ]
    refine wpAnyH_take (i := 6) (oi := { dst := some 13, op := Go.Op.move (Go.Operand.tmp 12), type := 4, pos := "ref.go:78", after := #[{ on := 5, ground := Go.Ground.data }, { on := 4, ground := Go.Ground.chain }], guard := none }) (v := ?v39) rfl (by kernel_rfl) (by kernel_rfl) (by kernel_rfl) (fun _ _ _ h => h) (Or.inl ⟨by rfl, ?hy39⟩) (by assumption) ?_
    case hy39 => (intro w hSw; (try dsimp only at hSw); go_simp; try with_reducible rfl)
    try simp only [Act.put, List.setIfInBounds_toArray, List.set_cons_zero, List.set_cons_succ]
    refine wpAnyH_take (i := 7) (oi := { dst := some 14, op := Go.Op.move (Go.Operand.tmp 2), type := 3, pos := "ref.go:78", after := #[{ on := 6, ground := Go.Ground.guard }], guard := some (6, true) }) (v := ?v40) rfl (by kernel_rfl) (by kernel_rfl) (by kernel_rfl) (fun _ _ _ h => h) (Or.inl ⟨by rfl, ?hy40⟩) (by assumption) ?_
    case hy40 => (intro w hSw; (try dsimp only at hSw); go_simp; try with_reducible rfl)
    try simp only [Act.put, List.setIfInBounds_toArray, List.set_cons_zero, List.set_cons_succ]
    refine wpAnyH_take (i := 8) (oi := { dst := some 15, op := Go.Op.binOp Go.BinOp.geq 3 (Go.Operand.tmp 14) (Go.Operand.const (Go.Value.int Go.IntKind.i64 0)) 3, type := 4, pos := "ref.go:78", after := #[{ on := 7, ground := Go.Ground.data }, { on := 6, ground := Go.Ground.guard }], guard := some (6, true) }) (v := ?v41) rfl (by kernel_rfl) (by kernel_rfl) (by kernel_rfl) (fun _ _ _ h => h) (Or.inl ⟨by rfl, ?hy41⟩) (by assumption) ?_
    case hy41 => (intro w hSw; (try dsimp only at hSw); go_simp; try with_reducible rfl)
    try simp only [Act.put, List.setIfInBounds_toArray, List.set_cons_zero, List.set_cons_succ]
    refine wpAnyH_take (i := 9) (oi := { dst := some 16, op := Go.Op.pick (Go.Operand.tmp 13) (Go.Operand.tmp 15) (Go.Operand.const (Go.Value.bool false)), type := 4, pos := "ref.go:78", after := #[{ on := 6, ground := Go.Ground.data }, { on := 8, ground := Go.Ground.data }], guard := none }) (v := ?v42) rfl (by kernel_rfl) (by kernel_rfl) (by kernel_rfl) (fun _ _ _ h => h) (Or.inl ⟨by rfl, ?hy42⟩) (by assumption) ?_
    case hy42 => (intro w hSw; (try dsimp only at hSw); go_simp; try with_reducible rfl)
    try simp only [Act.put, List.setIfInBounds_toArray, List.set_cons_zero, List.set_cons_succ]
    refine wpAnyH_take (i := 10) (oi := { dst := some 17, op := Go.Op.move (Go.Operand.tmp 16), type := 4, pos := "ref.go:78", after := #[{ on := 9, ground := Go.Ground.data }, { on := 6, ground := Go.Ground.chain }], guard := none }) (v := ?v43) rfl (by kernel_rfl) (by kernel_rfl) (by kernel_rfl) (fun _ _ _ h => h) (Or.inl ⟨by rfl, ?hy43⟩) (by assumption) ?_
    case hy43 => (intro w hSw; (try dsimp only at hSw); go_simp; try with_reducible rfl)
    try simp only [Act.put, List.setIfInBounds_toArray, List.set_cons_zero, List.set_cons_succ]
    refine wpAnyH_take (i := 11) (oi := { dst := some 18, op := Go.Op.move (Go.Operand.tmp 2), type := 3, pos := "ref.go:78", after := #[{ on := 10, ground := Go.Ground.guard }], guard := some (10, true) }) (v := ?v44) rfl (by kernel_rfl) (by kernel_rfl) (by kernel_rfl) (fun _ _ _ h => h) (Or.inl ⟨by rfl, ?hy44⟩) (by assumption) ?_
    case hy44 => (intro w hSw; (try dsimp only at hSw); go_simp; try with_reducible rfl)
    try simp only [Act.put, List.setIfInBounds_toArray, List.set_cons_zero, List.set_cons_succ]
    refine wpAnyH_take (i := 12) (oi := { dst := some 19, op := Go.Op.move (Go.Operand.tmp 1), type := 29, pos := "ref.go:78", after := #[{ on := 10, ground := Go.Ground.guard }], guard := some (10, true) }) (v := ?v45) rfl (by kernel_rfl) (by kernel_rfl) (by kernel_rfl) (fun _ _ _ h => h) (Or.inl ⟨by rfl, ?hy45⟩) (by assumption) ?_
    case hy45 => (intro w hSw; (try dsimp only at hSw); go_simp; try with_reducible rfl)
    try simp only [Act.put, List.setIfInBounds_toArray, List.set_cons_zero, List.set_cons_succ]
    refine wpAnyH_take (i := 13) (oi := { dst := some 20, op := Go.Op.call { callee := Go.Callee.builtin Go.Builtin.len, args := #[Go.Operand.tmp 19], argTypes := #[29] }, type := 3, pos := "ref.go:78", after := #[{ on := 12, ground := Go.Ground.data }, { on := 10, ground := Go.Ground.guard }], guard := some (10, true) }) (v := ?v46) rfl (by kernel_rfl) (by kernel_rfl) (by kernel_rfl) (fun _ _ _ h => h) (Or.inl ⟨by rfl, ?hy46⟩) (by assumption) ?_
    case hy46 => (intro w hSw; (try dsimp only at hSw); go_simp; try with_reducible rfl)
    try simp only [Act.put, List.setIfInBounds_toArray, List.set_cons_zero, List.set_cons_succ]
    refine wpAnyH_take (i := 14) (oi := { dst := some 21, op := Go.Op.binOp Go.BinOp.lss 3 (Go.Operand.tmp 18) (Go.Operand.tmp 20) 3, type := 4, pos := "ref.go:78", after := #[{ on := 11, ground := Go.Ground.data }, { on := 13, ground := Go.Ground.data }, { on := 10, ground := Go.Ground.guard }], guard := some (10, true) }) (v := ?v47) rfl (by kernel_rfl) (by kernel_rfl) (by kernel_rfl) (fun _ _ _ h => h) (Or.inl ⟨by rfl, ?hy47⟩) (by assumption) ?_
    case hy47 => (intro w hSw; (try dsimp only at hSw); go_simp; try with_reducible rfl)
    try simp only [Act.put, List.setIfInBounds_toArray, List.set_cons_zero, List.set_cons_succ]
    refine wpAnyH_take (i := 15) (oi := { dst := some 22, op := Go.Op.pick (Go.Operand.tmp 17) (Go.Operand.tmp 21) (Go.Operand.const (Go.Value.bool false)), type := 4, pos := "ref.go:78", after := #[{ on := 10, ground := Go.Ground.data }, { on := 14, ground := Go.Ground.data }], guard := none }) (v := ?v48) rfl (by kernel_rfl) (by kernel_rfl) (by kernel_rfl) (fun _ _ _ h => h) (Or.inl ⟨by rfl, ?hy48⟩) (by assumption) ?_
    case hy48 => (intro w hSw; (try dsimp only at hSw); go_simp; try with_reducible rfl)
    try simp only [Act.put, List.setIfInBounds_toArray, List.set_cons_zero, List.set_cons_succ]
    refine wpAnyH_take (i := 16) (oi := { dst := some 23, op := Go.Op.move (Go.Operand.tmp 22), type := 4, pos := "ref.go:78", after := #[{ on := 15, ground := Go.Ground.data }, { on := 10, ground := Go.Ground.chain }], guard := none }) (v := ?v49) rfl (by kernel_rfl) (by kernel_rfl) (by kernel_rfl) (fun _ _ _ h => h) (Or.inl ⟨by rfl, ?hy49⟩) (by assumption) ?_
    case hy49 => (intro w hSw; (try dsimp only at hSw); go_simp; try with_reducible rfl)
    try simp only [Act.put, List.setIfInBounds_toArray, List.set_cons_zero, List.set_cons_succ]
    refine wpAnyH_take (i := 17) (oi := { dst := some 24, op := Go.Op.load 28 (Go.Operand.tmp 3), type := 28, pos := "ref.go:78", after := #[{ on := 16, ground := Go.Ground.guard }], guard := some (16, true) }) (v := undef) rfl (by kernel_rfl) (by kernel_rfl) (by kernel_rfl) (fun _ _ _ h => h) (Or.inr ⟨by rfl, rfl⟩) (by assumption) ?_
    try simp only [Act.put, List.setIfInBounds_toArray, List.set_cons_zero, List.set_cons_succ]
    refine wpAnyH_take (i := 18) (oi := { dst := some 25, op := Go.Op.move (Go.Operand.tmp 1), type := 29, pos := "ref.go:78", after := #[{ on := 16, ground := Go.Ground.guard }], guard := some (16, true) }) (v := undef) rfl (by kernel_rfl) (by kernel_rfl) (by kernel_rfl) (fun _ _ _ h => h) (Or.inr ⟨by rfl, rfl⟩) (by assumption) ?_
    try simp only [Act.put, List.setIfInBounds_toArray, List.set_cons_zero, List.set_cons_succ]
    refine wpAnyH_take (i := 19) (oi := { dst := some 26, op := Go.Op.move (Go.Operand.tmp 2), type := 3, pos := "ref.go:78", after := #[{ on := 16, ground := Go.Ground.guard }], guard := some (16, true) }) (v := undef) rfl (by kernel_rfl) (by kernel_rfl) (by kernel_rfl) (fun _ _ _ h => h) (Or.inr ⟨by rfl, rfl⟩) (by assumption) ?_
    try simp only [Act.put, List.setIfInBounds_toArray, List.set_cons_zero, List.set_cons_succ]
    refine wpAnyH_take (i := 20) (oi := { dst := some 27, op := Go.Op.call { callee := Go.Callee.value (Go.Operand.func 39), args := #[Go.Operand.tmp 24, Go.Operand.tmp 25, Go.Operand.tmp 26], argTypes := #[28, 29, 3] }, type := 4, pos := "ref.go:78", after := #[{ on := 17, ground := Go.Ground.data }, { on := 18, ground := Go.Ground.data }, { on := 19, ground := Go.Ground.data }, { on := 16, ground := Go.Ground.chain }, { on := 16, ground := Go.Ground.guard }], guard := some (16, true) }) (v := undef) rfl (by kernel_rfl) (by kernel_rfl) (by kernel_rfl) (fun _ _ _ h => h) (Or.inr ⟨by rfl, rfl⟩) (by assumption) ?_
    try simp only [Act.put, List.setIfInBounds_toArray, List.set_cons_zero, List.set_cons_succ]
    refine wpAnyH_take (i := 21) (oi := { dst := some 28, op := Go.Op.fieldAddr 28 (Go.Operand.tmp 3) 2, type := 0, pos := "ref.go:78", after := #[{ on := 16, ground := Go.Ground.guard }], guard := some (16, true) }) (v := undef) rfl (by kernel_rfl) (by kernel_rfl) (by kernel_rfl) (fun _ _ _ h => h) (Or.inr ⟨by rfl, rfl⟩) (by assumption) ?_
    try simp only [Act.put, List.setIfInBounds_toArray, List.set_cons_zero, List.set_cons_succ]
    refine wpAnyH_take (i := 22) (oi := { dst := some 29, op := Go.Op.load 4 (Go.Operand.tmp 28), type := 4, pos := "ref.go:78", after := #[{ on := 21, ground := Go.Ground.data }, { on := 16, ground := Go.Ground.guard }], guard := some (16, true) }) (v := undef) rfl (by kernel_rfl) (by kernel_rfl) (by kernel_rfl) (fun _ _ _ h => h) (Or.inr ⟨by rfl, rfl⟩) (by assumption) ?_
    try simp only [Act.put, List.setIfInBounds_toArray, List.set_cons_zero, List.set_cons_succ]
    refine wpAnyH_take (i := 23) (oi := { dst := some 30, op := Go.Op.binOp Go.BinOp.neq 4 (Go.Operand.tmp 27) (Go.Operand.tmp 29) 4, type := 4, pos := "ref.go:78", after := #[{ on := 20, ground := Go.Ground.data }, { on := 22, ground := Go.Ground.data }, { on := 16, ground := Go.Ground.guard }], guard := some (16, true) }) (v := undef) rfl (by kernel_rfl) (by kernel_rfl) (by kernel_rfl) (fun _ _ _ h => h) (Or.inr ⟨by rfl, rfl⟩) (by assumption) ?_
    try simp only [Act.put, List.setIfInBounds_toArray, List.set_cons_zero, List.set_cons_succ]
    refine wpAnyH_take (i := 24) (oi := { dst := some 31, op := Go.Op.pick (Go.Operand.tmp 23) (Go.Operand.tmp 30) (Go.Operand.const (Go.Value.bool false)), type := 4, pos := "ref.go:78", after := #[{ on := 16, ground := Go.Ground.data }, { on := 23, ground := Go.Ground.data }], guard := none }) (v := ?v50) rfl (by kernel_rfl) (by kernel_rfl) (by kernel_rfl) (fun _ _ _ h => h) (Or.inl ⟨by rfl, ?hy50⟩) (by assumption) ?_
    case hy50 => (intro w hSw; (try dsimp only at hSw); go_simp; try with_reducible rfl)
    try simp only [Act.put, List.setIfInBounds_toArray, List.set_cons_zero, List.set_cons_succ]
    refine wpAnyH_take (i := 25) (oi := { dst := some 6, op := Go.Op.assign (Go.Operand.tmp 31), type := 4, pos := "ref.go:78", after := #[{ on := 24, ground := Go.Ground.data }, { on := 20, ground := Go.Ground.chain }, { on := 0, ground := Go.Ground.phase }, { on := 1, ground := Go.Ground.phase }, { on := 2, ground := Go.Ground.phase }, { on := 3, ground := Go.Ground.phase }, { on := 4, ground := Go.Ground.phase }, { on := 5, ground := Go.Ground.phase }, { on := 6, ground := Go.Ground.phase }, { on := 7, ground := Go.Ground.phase }, { on := 8, ground := Go.Ground.phase }, { on := 9, ground := Go.Ground.phase }, { on := 10, ground := Go.Ground.phase }, { on := 11, ground := Go.Ground.phase }, { on := 12, ground := Go.Ground.phase }, { on := 13, ground := Go.Ground.phase }, { on := 14, ground := Go.Ground.phase }, { on := 15, ground := Go.Ground.phase }, { on := 16, ground := Go.Ground.phase }, { on := 17, ground := Go.Ground.phase }, { on := 18, ground := Go.Ground.phase }, { on := 19, ground := Go.Ground.phase }, { on := 20, ground := Go.Ground.phase }, { on := 21, ground := Go.Ground.phase }, { on := 22, ground := Go.Ground.phase }, { on := 23, ground := Go.Ground.phase }, { on := 24, ground := Go.Ground.phase }], guard := none }) (v := ?v51) rfl (by kernel_rfl) (by kernel_rfl) (by kernel_rfl) (fun _ _ _ h => h) (Or.inl ⟨by rfl, ?hy51⟩) (by assumption) ?_
    case hy51 => (intro w hSw; (try dsimp only at hSw); go_simp; try with_reducible rfl)
    try simp only [Act.put, List.setIfInBounds_toArray, List.set_cons_zero, List.set_cons_succ]
    refine wpAnyH_done (by kernel_rfl) ?_ _
    go_wp2_with fail
    go_ret
    exact ⟨ret_b rfl, hb1.then (by (repeat' first | with_reducible exact Below.refl _ _ | with_reducible assumption | with_reducible refine Bw.drew ?_ | with_reducible refine Bw.drewN ?_ _ | with_reducible refine bw_al ?_ _ | with_reducible refine Bw.then ?_ (by with_reducible assumption)))⟩
  have e : inL l i = true := by unfold inL; rw [decide_eq_true hi0, decide_eq_true hi1]; rfl
  rw [e, Bool.true_and]
  have Hh : Hid (holdB ⟨at', scan, neg, care, tags, bar⟩ l i = (condB ⟨at', scan, neg, care, tags, bar⟩ l i != neg)) := rfl
  have H3 := Lib.hid (fun (W : World) (k : Bw (w.alloc (.cells #[.int .i64 at', .bool scan, .bool neg, .bool care, .slice A1 tags.length c1, .slice A2 bar.length c2] 28)) W) => rcond_any (t := ⟨at', scan, neg, care, tags, bar⟩) (i := i) (h1.after (hb1.then k)) (h2.after (hb1.then k)) (hl.after (hb1.then k)) ⟨hi0, hi1⟩ ha hm)
  simp only at H3
  rw [Hh.out]
  clear e h1 h2 hl Hh
  generalize condB ⟨at', scan, neg, care, tags, bar⟩ l i = q at *
  go_enter Tryd.func17, Tryd.ntmps17
  go_wp2_with fail
  refine wp_region_held_drew (S := fun w' => w'.cell? ⟨w.heap.size, 0, none⟩ = some (.int .i64 at') ∧ w'.cell? ⟨w.heap.size, 1, none⟩ = some (.bool scan) ∧ w'.cell? ⟨w.heap.size, 2, none⟩ = some (.bool neg) ∧ w'.cell? ⟨w.heap.size, 3, none⟩ = some (.bool care) ∧ w'.cell? ⟨w.heap.size, 4, none⟩ = some (.slice A1 tags.length c1) ∧ w'.cell? ⟨w.heap.size, 5, none⟩ = some (.slice A2 bar.length c2)) (by kernel_rfl) ?_ (fun hHeld => ?_)
  · exact K _ (by (repeat' first | with_reducible exact Below.refl _ _ | with_reducible assumption | with_reducible refine Bw.drew ?_ | with_reducible refine Bw.drewN ?_ _ | with_reducible refine bw_al ?_ _ | with_reducible refine Bw.then ?_ (by with_reducible assumption)))
  refine wpAnyH_take (i := 0) (oi := { dst := some 7, op := Go.Op.load 28 (Go.Operand.tmp 3), type := 28, pos := "ref.go:78", after := #[], guard := none }) (v := ?v52) rfl (by kernel_rfl) (by kernel_rfl) (by kernel_rfl) (fun _ _ _ h => h) (Or.inl ⟨by rfl, ?hy52⟩) (by assumption) ?_
  case hy52 => (intro w hSw; (try dsimp only at hSw); go_simp; try with_reducible rfl)
  try simp only [Act.put, List.setIfInBounds_toArray, List.set_cons_zero, List.set_cons_succ]
  refine wpAnyH_ready (rs := [1]) (by kernel_rfl) (by simp) ?_
  refine (AllReadyH.cons (i := 1) (o := { dst := some 8, op := Go.Op.call { callee := Go.Callee.value (Go.Operand.func 37), args := #[Go.Operand.tmp 7], argTypes := #[28] }, type := 4, pos := "ref.go:78", after := #[{ on := 0, ground := Go.Ground.data }], guard := none }) rfl (fun K' hK' => ?_) AllReadyH.nil)
  go_simp
  with_reducible refine (H1.out _ (by (repeat' first | with_reducible exact Below.refl _ _ | with_reducible assumption | with_reducible refine Bw.drew ?_ | with_reducible refine Bw.drewN ?_ _ | with_reducible refine bw_al ?_ _ | with_reducible refine Bw.then ?_ (by with_reducible assumption)))).mono ?_
  rintro e wA ⟨rfl, hbA⟩
  try dsimp only
  refine hK'.out _ _ ?_ (fun hHeld => ?_)
  · exact K _ (by (repeat' first | with_reducible exact Below.refl _ _ | with_reducible assumption | with_reducible refine Bw.drew ?_ | with_reducible refine Bw.drewN ?_ _ | with_reducible refine bw_al ?_ _ | with_reducible refine Bw.then ?_ (by with_reducible assumption)))
  clear hK' K'
  try simp only [Act.put, List.setIfInBounds_toArray, List.set_cons_zero, List.set_cons_succ]
  refine wpAnyH_take (i := 2) (oi := { dst := some 9, op := Go.Op.move (Go.Operand.tmp 8), type := 4, pos := "ref.go:78", after := #[{ on := 1, ground := Go.Ground.data }, { on := 1, ground := Go.Ground.chain }], guard := none }) (v := ?v53) rfl (by kernel_rfl) (by kernel_rfl) (by kernel_rfl) (fun _ _ _ h => h) (Or.inl ⟨by rfl, ?hy53⟩) (by assumption) ?_
  case hy53 => (intro w hSw; (try dsimp only at hSw); go_simp; try with_reducible rfl)
  try simp only [Act.put, List.setIfInBounds_toArray, List.set_cons_zero, List.set_cons_succ]
  refine wpAnyH_take (i := 3) (oi := { dst := some 10, op := Go.Op.move (Go.Operand.tmp 1), type := 29, pos := "ref.go:78", after := #[{ on := 2, ground := Go.Ground.guard }], guard := some (2, true) }) (v := ?v54) rfl (by kernel_rfl) (by kernel_rfl) (by kernel_rfl) (fun _ _ _ h => h) (Or.inl ⟨by rfl, ?hy54⟩) (by assumption) ?_
  case hy54 => (intro w hSw; (try dsimp only at hSw); go_simp; try with_reducible rfl)
  try simp only [Act.put, List.setIfInBounds_toArray, List.set_cons_zero, List.set_cons_succ]
  refine wpAnyH_ready (rs := [4]) (by kernel_rfl) (by simp) ?_
  refine (AllReadyH.cons (i := 4) (o := { dst := some 11, op := Go.Op.call { callee := Go.Callee.value (Go.Operand.func 38), args := #[Go.Operand.tmp 10], argTypes := #[29] }, type := 4, pos := "ref.go:78", after := #[{ on := 3, ground := Go.Ground.data }, { on := 2, ground := Go.Ground.chain }, { on := 2, ground := Go.Ground.guard }], guard := some (2, true) }) rfl (fun K' hK' => ?_) AllReadyH.nil)
  go_simp
  with_reducible refine (H2.out _ (by (repeat' first | with_reducible exact Below.refl _ _ | with_reducible assumption | with_reducible refine Bw.drew ?_ | with_reducible refine Bw.drewN ?_ _ | with_reducible refine bw_al ?_ _ | with_reducible refine Bw.then ?_ (by with_reducible assumption)))).mono ?_
  rintro e wB ⟨rfl, hbB⟩
  try dsimp only
  refine hK'.out _ _ ?_ (fun hHeld => ?_)
  · exact K _ (by (repeat' first | with_reducible exact Below.refl _ _ | with_reducible assumption | with_reducible refine Bw.drew ?_ | with_reducible refine Bw.drewN ?_ _ | with_reducible refine bw_al ?_ _ | with_reducible refine Bw.then ?_ (by with_reducible assumption)))
  clear hK' K'
  try simp only [Act.put, List.setIfInBounds_toArray, List.set_cons_zero, List.set_cons_succ]
  refine wpAnyH_take (i := 5) (oi := { dst := some 12, op := Go.Op.pick (Go.Operand.tmp 9) (Go.Operand.tmp 11) (Go.Operand.const (Go.Value.bool false)), type := 4, pos := "ref.go:78", after := #[{ on := 2, ground := Go.Ground.data }, { on := 4, ground := Go.Ground.data }], guard := none }) (v := ?v55) rfl (by kernel_rfl) (by kernel_rfl) (by kernel_rfl) (fun _ _ _ h => h) (Or.inl ⟨by rfl, ?hy55⟩) (by assumption) ?_
  case hy55 => (intro w hSw; (try dsimp only at hSw); go_simp; try with_reducible rfl)
  try simp only [Act.put, List.setIfInBounds_toArray, List.set_cons_zero, List.set_cons_succ]
  refine wpAnyH_take (i := 6) (oi := { dst := some 13, op := Go.Op.move (Go.Operand.tmp 12), type := 4, pos := "ref.go:78", after := #[{ on := 5, ground := Go.Ground.data }, { on := 4, ground := Go.Ground.chain }], guard := none }) (v := ?v56) rfl (by kernel_rfl) (by kernel_rfl) (by kernel_rfl) (fun _ _ _ h => h) (Or.inl ⟨by rfl, ?hy56⟩) (by assumption) ?_
  case hy56 => (intro w hSw; (try dsimp only at hSw); go_simp; try with_reducible rfl)
  try simp only [Act.put, List.setIfInBounds_toArray, List.set_cons_zero, List.set_cons_succ]
  refine wpAnyH_take (i := 7) (oi := { dst := some 14, op := Go.Op.move (Go.Operand.tmp 2), type := 3, pos := "ref.go:78", after := #[{ on := 6, ground := Go.Ground.guard }], guard := some (6, true) }) (v := ?v57) rfl (by kernel_rfl) (by kernel_rfl) (by kernel_rfl) (fun _ _ _ h => h) (Or.inl ⟨by rfl, ?hy57⟩) (by assumption) ?_
  case hy57 => (intro w hSw; (try dsimp only at hSw); go_simp; try with_reducible rfl)
  try simp only [Act.put, List.setIfInBounds_toArray, List.set_cons_zero, List.set_cons_succ]
  refine wpAnyH_take (i := 8) (oi := { dst := some 15, op := Go.Op.binOp Go.BinOp.geq 3 (Go.Operand.tmp 14) (Go.Operand.const (Go.Value.int Go.IntKind.i64 0)) 3, type := 4, pos := "ref.go:78", after := #[{ on := 7, ground := Go.Ground.data }, { on := 6, ground := Go.Ground.guard }], guard := some (6, true) }) (v := ?v58) rfl (by kernel_rfl) (by kernel_rfl) (by kernel_rfl) (fun _ _ _ h => h) (Or.inl ⟨by rfl, ?hy58⟩) (by assumption) ?_
  case hy58 => (intro w hSw; (try dsimp only at hSw); go_simp; try with_reducible rfl)
  try simp only [Act.put, List.setIfInBounds_toArray, List.set_cons_zero, List.set_cons_succ]
  refine wpAnyH_take (i := 9) (oi := { dst := some 16, op := Go.Op.pick (Go.Operand.tmp 13) (Go.Operand.tmp 15) (Go.Operand.const (Go.Value.bool false)), type := 4, pos := "ref.go:78", after := #[{ on := 6, ground := Go.Ground.data }, { on := 8, ground := Go.Ground.data }], guard := none }) (v := ?v59) rfl (by kernel_rfl) (by kernel_rfl) (by kernel_rfl) (fun _ _ _ h => h) (Or.inl ⟨by rfl, ?hy59⟩) (by assumption) ?_
  case hy59 => (intro w hSw; (try dsimp only at hSw); go_simp; try with_reducible rfl)
  try simp only [Act.put, List.setIfInBounds_toArray, List.set_cons_zero, List.set_cons_succ]
  refine wpAnyH_take (i := 10) (oi := { dst := some 17, op := Go.Op.move (Go.Operand.tmp 16), type := 4, pos := "ref.go:78", after := #[{ on := 9, ground := Go.Ground.data }, { on := 6, ground := Go.Ground.chain }], guard := none }) (v := ?v60) rfl (by kernel_rfl) (by kernel_rfl) (by kernel_rfl) (fun _ _ _ h => h) (Or.inl ⟨by rfl, ?hy60⟩) (by assumption) ?_
  case hy60 => (intro w hSw; (try dsimp only at hSw); go_simp; try with_reducible rfl)
  try simp only [Act.put, List.setIfInBounds_toArray, List.set_cons_zero, List.set_cons_succ]
  refine wpAnyH_take (i := 11) (oi := { dst := some 18, op := Go.Op.move (Go.Operand.tmp 2), type := 3, pos := "ref.go:78", after := #[{ on := 10, ground := Go.Ground.guard }], guard := some (10, true) }) (v := ?v61) rfl (by kernel_rfl) (by kernel_rfl) (by kernel_rfl) (fun _ _ _ h => h) (Or.inl ⟨by rfl, ?hy61⟩) (by assumption) ?_
  case hy61 => (intro w hSw; (try dsimp only at hSw); go_simp; try with_reducible rfl)
  try simp only [Act.put, List.setIfInBounds_toArray, List.set_cons_zero, List.set_cons_succ]
  refine wpAnyH_take (i := 12) (oi := { dst := some 19, op := Go.Op.move (Go.Operand.tmp 1), type := 29, pos := "ref.go:78", after := #[{ on := 10, ground := Go.Ground.guard }], guard := some (10, true) }) (v := ?v62) rfl (by kernel_rfl) (by kernel_rfl) (by kernel_rfl) (fun _ _ _ h => h) (Or.inl ⟨by rfl, ?hy62⟩) (by assumption) ?_
  case hy62 => (intro w hSw; (try dsimp only at hSw); go_simp; try with_reducible rfl)
  try simp only [Act.put, List.setIfInBounds_toArray, List.set_cons_zero, List.set_cons_succ]
  refine wpAnyH_take (i := 13) (oi := { dst := some 20, op := Go.Op.call { callee := Go.Callee.builtin Go.Builtin.len, args := #[Go.Operand.tmp 19], argTypes := #[29] }, type := 3, pos := "ref.go:78", after := #[{ on := 12, ground := Go.Ground.data }, { on := 10, ground := Go.Ground.guard }], guard := some (10, true) }) (v := ?v63) rfl (by kernel_rfl) (by kernel_rfl) (by kernel_rfl) (fun _ _ _ h => h) (Or.inl ⟨by rfl, ?hy63⟩) (by assumption) ?_
  case hy63 => (intro w hSw; (try dsimp only at hSw); go_simp; try with_reducible rfl)
  try simp only [Act.put, List.setIfInBounds_toArray, List.set_cons_zero, List.set_cons_succ]
  refine wpAnyH_take (i := 14) (oi := { dst := some 21, op := Go.Op.binOp Go.BinOp.lss 3 (Go.Operand.tmp 18) (Go.Operand.tmp 20) 3, type := 4, pos := "ref.go:78", after := #[{ on := 11, ground := Go.Ground.data }, { on := 13, ground := Go.Ground.data }, { on := 10, ground := Go.Ground.guard }], guard := some (10, true) }) (v := ?v64) rfl (by kernel_rfl) (by kernel_rfl) (by kernel_rfl) (fun _ _ _ h => h) (Or.inl ⟨by rfl, ?hy64⟩) (by assumption) ?_
  case hy64 => (intro w hSw; (try dsimp only at hSw); go_simp; try with_reducible rfl)
  try simp only [Act.put, List.setIfInBounds_toArray, List.set_cons_zero, List.set_cons_succ]
  refine wpAnyH_take (i := 15) (oi := { dst := some 22, op := Go.Op.pick (Go.Operand.tmp 17) (Go.Operand.tmp 21) (Go.Operand.const (Go.Value.bool false)), type := 4, pos := "ref.go:78", after := #[{ on := 10, ground := Go.Ground.data }, { on := 14, ground := Go.Ground.data }], guard := none }) (v := ?v65) rfl (by kernel_rfl) (by kernel_rfl) (by kernel_rfl) (fun _ _ _ h => h) (Or.inl ⟨by rfl, ?hy65⟩) (by assumption) ?_
  case hy65 => (intro w hSw; (try dsimp only at hSw); go_simp; try with_reducible rfl)
  try simp only [Act.put, List.setIfInBounds_toArray, List.set_cons_zero, List.set_cons_succ]
  refine wpAnyH_take (i := 16) (oi := { dst := some 23, op := Go.Op.move (Go.Operand.tmp 22), type := 4, pos := "ref.go:78", after := #[{ on := 15, ground := Go.Ground.data }, { on := 10, ground := Go.Ground.chain }], guard := none }) (v := ?v66) rfl (by kernel_rfl) (by kernel_rfl) (by kernel_rfl) (fun _ _ _ h => h) (Or.inl ⟨by rfl, ?hy66⟩) (by assumption) ?_
  case hy66 => (intro w hSw; (try dsimp only at hSw); go_simp; try with_reducible rfl)
  try simp only [Act.put, List.setIfInBounds_toArray, List.set_cons_zero, List.set_cons_succ]
  refine wpAnyH_take (i := 17) (oi := { dst := some 24, op := Go.Op.load 28 (Go.Operand.tmp 3), type := 28, pos := "ref.go:78", after := #[{ on := 16, ground := Go.Ground.guard }], guard := some (16, true) }) (v := ?v67) rfl (by kernel_rfl) (by kernel_rfl) (by kernel_rfl) (fun _ _ _ h => h) (Or.inl ⟨by rfl, ?hy67⟩) (by assumption) ?_
  case hy67 => (intro w hSw; (try dsimp only at hSw); go_simp; try with_reducible rfl)
  try simp only [Act.put, List.setIfInBounds_toArray, List.set_cons_zero, List.set_cons_succ]
  refine wpAnyH_take (i := 18) (oi := { dst := some 25, op := Go.Op.move (Go.Operand.tmp 1), type := 29, pos := "ref.go:78", after := #[{ on := 16, ground := Go.Ground.guard }], guard := some (16, true) }) (v := ?v68) rfl (by kernel_rfl) (by kernel_rfl) (by kernel_rfl) (fun _ _ _ h => h) (Or.inl ⟨by rfl, ?hy68⟩) (by assumption) ?_
  case hy68 => (intro w hSw; (try dsimp only at hSw); go_simp; try with_reducible rfl)
  try simp only [Act.put, List.setIfInBounds_toArray, List.set_cons_zero, List.set_cons_succ]
  refine wpAnyH_take (i := 19) (oi := { dst := some 26, op := Go.Op.move (Go.Operand.tmp 2), type := 3, pos := "ref.go:78", after := #[{ on := 16, ground := Go.Ground.guard }], guard := some (16, true) }) (v := ?v69) rfl (by kernel_rfl) (by kernel_rfl) (by kernel_rfl) (fun _ _ _ h => h) (Or.inl ⟨by rfl, ?hy69⟩) (by assumption) ?_
  case hy69 => (intro w hSw; (try dsimp only at hSw); go_simp; try with_reducible rfl)
  try simp only [Act.put, List.setIfInBounds_toArray, List.set_cons_zero, List.set_cons_succ]
  refine wpAnyH_take (i := 21) (oi := { dst := some 28, op := Go.Op.fieldAddr 28 (Go.Operand.tmp 3) 2, type := 0, pos := "ref.go:78", after := #[{ on := 16, ground := Go.Ground.guard }], guard := some (16, true) }) (v := ?v70) rfl (by kernel_rfl) (by kernel_rfl) (by kernel_rfl) (fun _ _ _ h => h) (Or.inl ⟨by rfl, ?hy70⟩) (by assumption) ?_
  case hy70 => (intro w hSw; (try dsimp only at hSw); go_simp; try with_reducible rfl)
  try simp only [Act.put, List.setIfInBounds_toArray, List.set_cons_zero, List.set_cons_succ]
  refine wpAnyH_take (i := 22) (oi := { dst := some 29, op := Go.Op.load 4 (Go.Operand.tmp 28), type := 4, pos := "ref.go:78", after := #[{ on := 21, ground := Go.Ground.data }, { on := 16, ground := Go.Ground.guard }], guard := some (16, true) }) (v := ?v71) rfl (by kernel_rfl) (by kernel_rfl) (by kernel_rfl) (fun _ _ _ h => h) (Or.inl ⟨by rfl, ?hy71⟩) (by assumption) ?_
  case hy71 => (intro w hSw; (try dsimp only at hSw); go_simp; try with_reducible rfl)
  try simp only [Act.put, List.setIfInBounds_toArray, List.set_cons_zero, List.set_cons_succ]
  refine wpAnyH_ready (rs := [20]) (by kernel_rfl) (by simp) ?_
  refine (AllReadyH.cons (i := 20) (o := { dst := some 27, op := Go.Op.call { callee := Go.Callee.value (Go.Operand.func 39), args := #[Go.Operand.tmp 24, Go.Operand.tmp 25, Go.Operand.tmp 26], argTypes := #[28, 29, 3] }, type := 4, pos := "ref.go:78", after := #[{ on := 17, ground := Go.Ground.data }, { on := 18, ground := Go.Ground.data }, { on := 19, ground := Go.Ground.data }, { on := 16, ground := Go.Ground.chain }, { on := 16, ground := Go.Ground.guard }], guard := some (16, true) }) rfl (fun K' hK' => ?_) AllReadyH.nil)
  go_simp
  with_reducible refine (H3.out _ (by (repeat' first | with_reducible exact Below.refl _ _ | with_reducible assumption | with_reducible refine Bw.drew ?_ | with_reducible refine Bw.drewN ?_ _ | with_reducible refine bw_al ?_ _ | with_reducible refine Bw.then ?_ (by with_reducible assumption)))).mono ?_
  rintro e wC ⟨rfl, hbC⟩
  try dsimp only
  refine hK'.out _ _ ?_ (fun hHeld => ?_)
  · exact K _ (by (repeat' first | with_reducible exact Below.refl _ _ | with_reducible assumption | with_reducible refine Bw.drew ?_ | with_reducible refine Bw.drewN ?_ _ | with_reducible refine bw_al ?_ _ | with_reducible refine Bw.then ?_ (by with_reducible assumption)))
  clear hK' K'
  try simp only [Act.put, List.setIfInBounds_toArray, List.set_cons_zero, List.set_cons_succ]
  refine wpAnyH_take (i := 23) (oi := { dst := some 30, op := Go.Op.binOp Go.BinOp.neq 4 (Go.Operand.tmp 27) (Go.Operand.tmp 29) 4, type := 4, pos := "ref.go:78", after := #[{ on := 20, ground := Go.Ground.data }, { on := 22, ground := Go.Ground.data }, { on := 16, ground := Go.Ground.guard }], guard := some (16, true) }) (v := ?v72) rfl (by kernel_rfl) (by kernel_rfl) (by kernel_rfl) (fun _ _ _ h => h) (Or.inl ⟨by rfl, ?hy72⟩) (by assumption) ?_
  case hy72 => (intro w hSw; (try dsimp only at hSw); go_simp; try with_reducible rfl)
  try simp only [Act.put, List.setIfInBounds_toArray, List.set_cons_zero, List.set_cons_succ]
  refine wpAnyH_take (i := 24) (oi := { dst := some 31, op := Go.Op.pick (Go.Operand.tmp 23) (Go.Operand.tmp 30) (Go.Operand.const (Go.Value.bool false)), type := 4, pos := "ref.go:78", after := #[{ on := 16, ground := Go.Ground.data }, { on := 23, ground := Go.Ground.data }], guard := none }) (v := ?v73) rfl (by kernel_rfl) (by kernel_rfl) (by kernel_rfl) (fun _ _ _ h => h) (Or.inl ⟨by rfl, ?hy73⟩) (by assumption) ?_
  case hy73 => (intro w hSw; (try dsimp only at hSw); go_simp; try with_reducible rfl)
  try simp only [Act.put, List.setIfInBounds_toArray, List.set_cons_zero, List.set_cons_succ]
  refine wpAnyH_take (i := 25) (oi := { dst := some 6, op := Go.Op.assign (Go.Operand.tmp 31), type := 4, pos := "ref.go:78", after := #[{ on := 24, ground := Go.Ground.data }, { on := 20, ground := Go.Ground.chain }, { on := 0, ground := Go.Ground.phase }, { on := 1, ground := Go.Ground.phase }, { on := 2, ground := Go.Ground.phase }, { on := 3, ground := Go.Ground.phase }, { on := 4, ground := Go.Ground.phase }, { on := 5, ground := Go.Ground.phase }, { on := 6, ground := Go.Ground.phase }, { on := 7, ground := Go.Ground.phase }, { on := 8, ground := Go.Ground.phase }, { on := 9, ground := Go.Ground.phase }, { on := 10, ground := Go.Ground.phase }, { on := 11, ground := Go.Ground.phase }, { on := 12, ground := Go.Ground.phase }, { on := 13, ground := Go.Ground.phase }, { on := 14, ground := Go.Ground.phase }, { on := 15, ground := Go.Ground.phase }, { on := 16, ground := Go.Ground.phase }, { on := 17, ground := Go.Ground.phase }, { on := 18, ground := Go.Ground.phase }, { on := 19, ground := Go.Ground.phase }, { on := 20, ground := Go.Ground.phase }, { on := 21, ground := Go.Ground.phase }, { on := 22, ground := Go.Ground.phase }, { on := 23, ground := Go.Ground.phase }, { on := 24, ground := Go.Ground.phase }], guard := none }) (v := ?v74) rfl (by kernel_rfl) (by kernel_rfl) (by kernel_rfl) (fun _ _ _ h => h) (Or.inl ⟨by rfl, ?hy74⟩) (by assumption) ?_
  case hy74 => (intro w hSw; (try dsimp only at hSw); go_simp; try with_reducible rfl)
  try simp only [Act.put, List.setIfInBounds_toArray, List.set_cons_zero, List.set_cons_succ]
  refine wpAnyH_done (by kernel_rfl) ?_ _
  go_wp2_with fail
  go_ret
  exact ⟨ret_b rfl, hb1.then (by (repeat' first | with_reducible exact Below.refl _ _ | with_reducible assumption | with_reducible refine Bw.drew ?_ | with_reducible refine Bw.drewN ?_ _ | with_reducible refine bw_al ?_ _ | with_reducible refine Bw.then ?_ (by with_reducible assumption)))⟩
end Go.Proofs.YthecmbmidoagaaaDoor

/- The contracts of the program's comparisons of words and of elements: compareWords, letters.Compare, compare. -/
import Derived.Test.YtonadloonidmjaaDoorG1
import Derived.Test.YtonadloonidmjaaDoorShelf
import Derived.Deep.RegionHeld
import Derived.BigQuiet
namespace Go.Proofs.YtonadloonidmjaaDoor
open Go.RowKit

theorem lexC_rng : ∀ x y : List Int, lexC x y = -1 ∨ lexC x y = 0 ∨ lexC x y = 1
  | [], [] => by simp [lexC]
  | [], _ :: _ => by simp [lexC]
  | _ :: _, [] => by simp [lexC]
  | x :: xs, y :: ys => by
    rw [lexC]
    split
    · simp
    · split
      · simp
      · exact lexC_rng xs ys
theorem cmpL_rng (x y : List Int) : -9223372036854775808 ≤ cmpL x y ∧ cmpL x y ≤ 9223372036854775807 := by
  unfold cmpL
  split
  · rcases lexC_rng x y with h | h | h <;> omega
  · split <;> omega
theorem cb_rng : ∀ x y : List UInt8, Lib.compareBytes x y = -1 ∨ Lib.compareBytes x y = 0 ∨ Lib.compareBytes x y = 1
  | [], [] => by simp [Lib.compareBytes]
  | [], _ :: _ => by simp [Lib.compareBytes]
  | _ :: _, [] => by simp [Lib.compareBytes]
  | x :: xs, y :: ys => by
    rw [Lib.compareBytes]
    split
    · simp
    · split
      · simp
      · exact cb_rng xs ys
theorem cmpB_rng (x y : ByteArray) : -9223372036854775808 ≤ cmpB x y ∧ cmpB x y ≤ 9223372036854775807 := by
  unfold cmpB
  rcases cb_rng x.data.toList y.data.toList with h | h | h <;> omega
theorem slC_rng : ∀ x y : List Int, slC x y = -1 ∨ slC x y = 0 ∨ slC x y = 1
  | [], [] => by simp [slC]
  | [], _ :: _ => by simp [slC]
  | _ :: _, [] => by simp [slC]
  | x :: xs, y :: ys => by
    rw [slC]
    split
    · simp
    · split
      · simp
      · exact slC_rng xs ys

theorem cmpI_rng (x y : Int) : cmpI x y = -1 ∨ cmpI x y = 0 ∨ cmpI x y = 1 := by
  unfold cmpI; split
  · simp
  · split <;> simp
theorem or_cmp (xs ys : List Int) : orI [cmpI (xs.length : Int) (ys.length : Int), slC xs ys] = cmpL xs ys := by
  rw [or2]
  unfold cmpL
  by_cases h1 : xs.length = ys.length
  · have e : cmpI (xs.length : Int) (ys.length : Int) = 0 := by unfold cmpI; rw [if_neg (by omega), if_neg (by omega)]
    rw [e, if_pos rfl, if_pos h1, slC_len xs ys h1]
  · by_cases h2 : xs.length < ys.length
    · have e : cmpI (xs.length : Int) (ys.length : Int) = -1 := by unfold cmpI; rw [if_pos (by omega)]
      rw [e, if_neg (by omega), if_neg h1, if_pos h2]
    · have e : cmpI (xs.length : Int) (ys.length : Int) = 1 := by unfold cmpI; rw [if_neg (by omega), if_pos (by omega)]
      rw [e, if_neg (by omega), if_neg h1, if_neg h2]

theorem compareWords_any {v u : Value} {xs ys : List Int} {w : World} (h : Rd tInt w v xs) (h' : Rd tInt w u ys) :
    Calls Tryd.prog 29 #[v, u] w fun e w' => e = .returned (.int .i64 (cmpL xs ys)) ∧ Gr w w' := by
  have hm := h.len_le
  have hm' := h'.len_le
  obtain ⟨A, c, rfl, _, _⟩ := h.form
  obtain ⟨A', c', rfl, _, _⟩ := h'.form
  go_enter Tryd.func29, Tryd.ntmps29
  go_wp2_with fail
  refine (cmpI_any _ _).mono ?_
  rintro e w1 ⟨rfl, rfl⟩
  go_wp2_with fail
  refine (slCmp_any h h').mono ?_
  rintro e w2 ⟨rfl, hd⟩
  have hs := slC_rng xs ys
  have hI := cmpI_rng (xs.length : Int) (ys.length : Int)
  have H := Lib.hid (or_cmp xs ys)
  generalize hz1 : cmpI (xs.length : Int) (ys.length : Int) = z1 at hI H ⊢
  generalize hz2 : slC xs ys = z2 at hs H ⊢
  clear hz1 hz2
  go_wp2_with fail
  refine (or_any (lit (xs := [z1, z2]) (by simp [maxLen]) (by intro y hy; simp at hy; rcases hy with rfl | rfl <;> omega))).mono ?_
  rintro e w3 ⟨rfl, hd3⟩
  rw [H.out]
  go_wp2_with fail
  go_ret
  exact ⟨rfl, Gr.then (hd.gr.alloc _) hd3.gr⟩

theorem lcmp_any (a b : ByteArray) {w : World} : Calls Tryd.prog 35 #[.string a, .string b] w fun e w' => e = .returned (.int .i64 (cmpB a b)) ∧ w' = w := by
  go_enter Tryd.func35, Tryd.ntmps35
  go_wp2_with fail
  refine (Tryd.strings_Compare a b _).mono ?_
  rintro e w1 ⟨rfl, rfl⟩
  go_wp2_with fail
  go_ret
  exact ⟨rfl, rfl⟩

def tEn : Ty En := tPair (tSlice tInt) (tPair tStr tInt)
theorem en_rep {w : World} {D : Nat → Prop} {cs : List Value} {e : En} (h : tEn.rep w D cs e) : ∃ u, cs = [u, .string e.2.1, .int .i64 e.2.2] ∧ Sl tInt w D u e.1 ∧ e.2.1.size ≤ maxLen ∧ inI64 e.2.2 := by
  obtain ⟨c1, c2, rfl, ⟨u, rfl, hu⟩, c3, c4, rfl, ⟨rfl, h3⟩, ⟨rfl, h4⟩⟩ := h
  exact ⟨u, rfl, hu, h3, h4⟩
theorem en_mk {w : World} {D : Nat → Prop} {u : Value} {e : En} (h1 : Sl tInt w D u e.1) (h2 : e.2.1.size ≤ maxLen) (h3 : inI64 e.2.2) : tEn.rep w D [u, .string e.2.1, .int .i64 e.2.2] e :=
  ⟨[u], [.string e.2.1, .int .i64 e.2.2], rfl, ⟨u, rfl, h1⟩, [.string e.2.1], [.int .i64 e.2.2], rfl, ⟨rfl, h2⟩, ⟨rfl, h3⟩⟩

set_option linter.unusedSimpArgs false in
set_option maxRecDepth 100000 in
set_option maxHeartbeats 4000000 in
theorem compare_any {u1 u2 : Value} {a b : En} {w : World} (h1 : Rd tInt w u1 a.1) (h2 : Rd tInt w u2 b.1) :
    Calls Tryd.prog 24 #[.agg #[u1, .string a.2.1, .int .i64 a.2.2], .agg #[u2, .string b.2.1, .int .i64 b.2.2]] w fun e w' => e = .returned (.int .i64 (ordK (kyE a) (kyE b))) ∧ Gr w w' := by
  obtain ⟨A, n, c, rfl, _, _, _⟩ := h1.form'
  obtain ⟨A', n', c', rfl, _, _, _⟩ := h2.form'
  go_enter Tryd.func24, Tryd.ntmps24
  go_wp2_with fail
  obtain ⟨W0, hW0⟩ : ∃ W0, W0 = (w.alloc (.cells #[.slice A n c, .string a.2.1, .int .i64 a.2.2] 37)).alloc (.cells #[.slice A' n' c', .string b.2.1, .int .i64 b.2.2] 37) := ⟨_, rfl⟩
  have hw0 : Gr w W0 := by rw [hW0]; exact ((Gr.refl w).alloc _).alloc _
  have q1 : W0.heap[w.heap.size]? = some (.cells #[.slice A n c, .string a.2.1, .int .i64 a.2.2] 37) := by rw [hW0]; exact at_old (at_new rfl)
  have q2 : W0.heap[w.heap.size + 1]? = some (.cells #[.slice A' n' c', .string b.2.1, .int .i64 b.2.2] 37) := by rw [hW0]; exact at_new (by simp)
  have h1' := h1.after hw0.bw
  have h2' := h2.after hw0.bw
  rw [← hW0]
  clear hW0 h1 h2
  have K0 : ∀ w', Gr W0 w' → w'.cell? ⟨w.heap.size, 0, none⟩ = some (.slice A n c) ∧ w'.cell? ⟨w.heap.size, 1, none⟩ = some (.string a.2.1) ∧ w'.cell? ⟨w.heap.size + 1, 0, none⟩ = some (.slice A' n' c') ∧ w'.cell? ⟨w.heap.size + 1, 1, none⟩ = some (.string b.2.1) := fun w' kk => by
    have r1 := (kk.bw.block _ (Array.getElem?_eq_some_iff.1 q1).1).trans q1
    have r2 := (kk.bw.block _ (Array.getElem?_eq_some_iff.1 q2).1).trans q2
    exact ⟨by rw [cell_of_row _ _ _ _ _ _ r1]; rfl, by rw [cell_of_row _ _ _ _ _ _ r1]; rfl, by rw [cell_of_row _ _ _ _ _ _ r2]; rfl, by rw [cell_of_row _ _ _ _ _ _ r2]; rfl⟩
  refine wp_region_held_drew (S := fun w' => w'.cell? ⟨w.heap.size, 0, none⟩ = some (.slice A n c) ∧ w'.cell? ⟨w.heap.size, 1, none⟩ = some (.string a.2.1) ∧ w'.cell? ⟨w.heap.size + 1, 0, none⟩ = some (.slice A' n' c') ∧ w'.cell? ⟨w.heap.size + 1, 1, none⟩ = some (.string b.2.1)) (by kernel_rfl) ?_ (fun hHeld => ?_)
  · exact K0 _ (by (repeat' first | with_reducible exact Gr.refl _ | with_reducible assumption | with_reducible refine Gr.drew ?_ | with_reducible refine Gr.drewN ?_ _ | with_reducible refine Gr.alloc ?_ _ | with_reducible refine Gr.then ?_ (by with_reducible assumption)))
  refine wpAnyH_take (i := 0) (oi := { dst := some 5, op := Go.Op.fieldAddr 37 (Go.Operand.tmp 2) 0, type := 0, pos := "guess.go:37", after := #[], guard := none }) (v := ?v1) rfl (by kernel_rfl) (by kernel_rfl) (by kernel_rfl) (fun _ _ _ h => h) (Or.inl ⟨by rfl, ?hy1⟩) (by assumption) ?_
  case hy1 => (intro w hSw; (try dsimp only at hSw); go_simp; try with_reducible rfl)
  try simp only [Act.put, List.setIfInBounds_toArray, List.set_cons_zero, List.set_cons_succ]
  refine wpAnyH_take (i := 1) (oi := { dst := some 6, op := Go.Op.load 25 (Go.Operand.tmp 5), type := 25, pos := "guess.go:37", after := #[{ on := 0, ground := Go.Ground.data }], guard := none }) (v := ?v2) rfl (by kernel_rfl) (by kernel_rfl) (by kernel_rfl) (fun _ _ _ h => h) (Or.inl ⟨by rfl, ?hy2⟩) (by assumption) ?_
  case hy2 => (intro w hSw; (try dsimp only at hSw); go_simp; try with_reducible rfl)
  try simp only [Act.put, List.setIfInBounds_toArray, List.set_cons_zero, List.set_cons_succ]
  refine wpAnyH_take (i := 2) (oi := { dst := some 7, op := Go.Op.fieldAddr 37 (Go.Operand.tmp 3) 0, type := 0, pos := "guess.go:37", after := #[], guard := none }) (v := ?v3) rfl (by kernel_rfl) (by kernel_rfl) (by kernel_rfl) (fun _ _ _ h => h) (Or.inl ⟨by rfl, ?hy3⟩) (by assumption) ?_
  case hy3 => (intro w hSw; (try dsimp only at hSw); go_simp; try with_reducible rfl)
  try simp only [Act.put, List.setIfInBounds_toArray, List.set_cons_zero, List.set_cons_succ]
  refine wpAnyH_take (i := 3) (oi := { dst := some 8, op := Go.Op.load 25 (Go.Operand.tmp 7), type := 25, pos := "guess.go:37", after := #[{ on := 2, ground := Go.Ground.data }], guard := none }) (v := ?v4) rfl (by kernel_rfl) (by kernel_rfl) (by kernel_rfl) (fun _ _ _ h => h) (Or.inl ⟨by rfl, ?hy4⟩) (by assumption) ?_
  case hy4 => (intro w hSw; (try dsimp only at hSw); go_simp; try with_reducible rfl)
  try simp only [Act.put, List.setIfInBounds_toArray, List.set_cons_zero, List.set_cons_succ]
  refine wpAnyH_take (i := 5) (oi := { dst := some 10, op := Go.Op.fieldAddr 37 (Go.Operand.tmp 2) 1, type := 0, pos := "guess.go:37", after := #[], guard := none }) (v := ?v5) rfl (by kernel_rfl) (by kernel_rfl) (by kernel_rfl) (fun _ _ _ h => h) (Or.inl ⟨by rfl, ?hy5⟩) (by assumption) ?_
  case hy5 => (intro w hSw; (try dsimp only at hSw); go_simp; try with_reducible rfl)
  try simp only [Act.put, List.setIfInBounds_toArray, List.set_cons_zero, List.set_cons_succ]
  refine wpAnyH_take (i := 6) (oi := { dst := some 11, op := Go.Op.load 9 (Go.Operand.tmp 10), type := 9, pos := "guess.go:37", after := #[{ on := 5, ground := Go.Ground.data }], guard := none }) (v := ?v6) rfl (by kernel_rfl) (by kernel_rfl) (by kernel_rfl) (fun _ _ _ h => h) (Or.inl ⟨by rfl, ?hy6⟩) (by assumption) ?_
  case hy6 => (intro w hSw; (try dsimp only at hSw); go_simp; try with_reducible rfl)
  try simp only [Act.put, List.setIfInBounds_toArray, List.set_cons_zero, List.set_cons_succ]
  refine wpAnyH_take (i := 7) (oi := { dst := some 12, op := Go.Op.fieldAddr 37 (Go.Operand.tmp 3) 1, type := 0, pos := "guess.go:37", after := #[], guard := none }) (v := ?v7) rfl (by kernel_rfl) (by kernel_rfl) (by kernel_rfl) (fun _ _ _ h => h) (Or.inl ⟨by rfl, ?hy7⟩) (by assumption) ?_
  case hy7 => (intro w hSw; (try dsimp only at hSw); go_simp; try with_reducible rfl)
  try simp only [Act.put, List.setIfInBounds_toArray, List.set_cons_zero, List.set_cons_succ]
  refine wpAnyH_take (i := 8) (oi := { dst := some 13, op := Go.Op.load 9 (Go.Operand.tmp 12), type := 9, pos := "guess.go:37", after := #[{ on := 7, ground := Go.Ground.data }], guard := none }) (v := ?v8) rfl (by kernel_rfl) (by kernel_rfl) (by kernel_rfl) (fun _ _ _ h => h) (Or.inl ⟨by rfl, ?hy8⟩) (by assumption) ?_
  case hy8 => (intro w hSw; (try dsimp only at hSw); go_simp; try with_reducible rfl)
  try simp only [Act.put, List.setIfInBounds_toArray, List.set_cons_zero, List.set_cons_succ]
  refine wpAnyH_ready (rs := [4]) (by kernel_rfl) (by simp) ?_
  refine (AllReadyH.cons (i := 4) (o := { dst := some 9, op := Go.Op.call { callee := Go.Callee.value (Go.Operand.func 29), args := #[Go.Operand.tmp 6, Go.Operand.tmp 8], argTypes := #[25, 25] }, type := 3, pos := "guess.go:37", after := #[{ on := 1, ground := Go.Ground.data }, { on := 3, ground := Go.Ground.data }], guard := none }) rfl (fun K' hK' => ?_) AllReadyH.nil)
  go_simp
  refine (compareWords_any (h1'.after (Gr.bw (by (repeat' first | with_reducible exact Gr.refl _ | with_reducible assumption | with_reducible refine Gr.drew ?_ | with_reducible refine Gr.drewN ?_ _ | with_reducible refine Gr.alloc ?_ _ | with_reducible refine Gr.then ?_ (by with_reducible assumption))))) (h2'.after (Gr.bw (by (repeat' first | with_reducible exact Gr.refl _ | with_reducible assumption | with_reducible refine Gr.drew ?_ | with_reducible refine Gr.drewN ?_ _ | with_reducible refine Gr.alloc ?_ _ | with_reducible refine Gr.then ?_ (by with_reducible assumption)))))).mono ?_
  rintro e w9 ⟨rfl, hb9⟩
  try dsimp only
  refine hK'.out _ _ ?_ (fun hHeld => ?_)
  · exact K0 _ (by (repeat' first | with_reducible exact Gr.refl _ | with_reducible assumption | with_reducible refine Gr.drew ?_ | with_reducible refine Gr.drewN ?_ _ | with_reducible refine Gr.alloc ?_ _ | with_reducible refine Gr.then ?_ (by with_reducible assumption)))
  clear hK' K'
  try simp only [Act.put, List.setIfInBounds_toArray, List.set_cons_zero, List.set_cons_succ]
  refine wpAnyH_ready (rs := [9]) (by kernel_rfl) (by simp) ?_
  refine (AllReadyH.cons (i := 9) (o := { dst := some 14, op := Go.Op.call { callee := Go.Callee.value (Go.Operand.func 35), args := #[Go.Operand.tmp 11, Go.Operand.tmp 13], argTypes := #[9, 9] }, type := 3, pos := "guess.go:37", after := #[{ on := 6, ground := Go.Ground.data }, { on := 8, ground := Go.Ground.data }, { on := 4, ground := Go.Ground.chain }], guard := none }) rfl (fun K' hK' => ?_) AllReadyH.nil)
  go_simp
  refine (lcmp_any _ _).mono ?_
  rintro e w14 ⟨rfl, rfl⟩
  try dsimp only
  refine hK'.out _ _ ?_ (fun hHeld => ?_)
  · exact K0 _ (by (repeat' first | with_reducible exact Gr.refl _ | with_reducible assumption | with_reducible refine Gr.drew ?_ | with_reducible refine Gr.drewN ?_ _ | with_reducible refine Gr.alloc ?_ _ | with_reducible refine Gr.then ?_ (by with_reducible assumption)))
  clear hK' K'
  try simp only [Act.put, List.setIfInBounds_toArray, List.set_cons_zero, List.set_cons_succ]
  refine wpAnyH_ready (rs := [10]) (by kernel_rfl) (by simp) ?_
  refine (AllReadyH.cons (i := 10) (o := { dst := some 15, op := Go.Op.buildSlice 25 2 #[(0, Go.Operand.tmp 9), (1, Go.Operand.tmp 14)], type := 25, pos := "guess.go:37", after := #[{ on := 4, ground := Go.Ground.data }, { on := 9, ground := Go.Ground.data }], guard := none }) rfl (fun K' hK' => ?_) AllReadyH.nil)
  go_simp
  refine hK'.out _ _ ?_ (fun hHeld => ?_)
  · exact K0 _ (by (repeat' first | with_reducible exact Gr.refl _ | with_reducible assumption | with_reducible refine Gr.drew ?_ | with_reducible refine Gr.drewN ?_ _ | with_reducible refine Gr.alloc ?_ _ | with_reducible refine Gr.then ?_ (by with_reducible assumption)))
  clear hK' K'
  try simp only [Act.put, List.setIfInBounds_toArray, List.set_cons_zero, List.set_cons_succ]
  refine wpAnyH_ready (rs := [11]) (by kernel_rfl) (by simp) ?_
  refine (AllReadyH.cons (i := 11) (o := { dst := some 16, op := Go.Op.call { callee := Go.Callee.value (Go.Operand.func 48), args := #[Go.Operand.tmp 15], argTypes := #[25] }, type := 3, pos := "guess.go:37", after := #[{ on := 10, ground := Go.Ground.data }, { on := 9, ground := Go.Ground.chain }], guard := none }) rfl (fun K' hK' => ?_) AllReadyH.nil)
  go_simp
  refine (or_any (lit (xs := [cmpL a.1 b.1, cmpB a.2.1 b.2.1]) (by simp [maxLen]) (by intro y hy; simp at hy; rcases hy with rfl | rfl <;> first | exact cmpL_rng _ _ | exact cmpB_rng _ _))).mono ?_
  rintro e w16 ⟨rfl, hd16⟩
  have hb16 := hd16.gr
  try dsimp only
  refine hK'.out _ _ ?_ (fun hHeld => ?_)
  · exact K0 _ (by (repeat' first | with_reducible exact Gr.refl _ | with_reducible assumption | with_reducible refine Gr.drew ?_ | with_reducible refine Gr.drewN ?_ _ | with_reducible refine Gr.alloc ?_ _ | with_reducible refine Gr.then ?_ (by with_reducible assumption)))
  clear hK' K'
  try simp only [Act.put, List.setIfInBounds_toArray, List.set_cons_zero, List.set_cons_succ]
  refine wpAnyH_take (i := 12) (oi := { dst := some 4, op := Go.Op.assign (Go.Operand.tmp 16), type := 3, pos := "guess.go:37", after := #[{ on := 11, ground := Go.Ground.data }, { on := 11, ground := Go.Ground.chain }, { on := 0, ground := Go.Ground.phase }, { on := 1, ground := Go.Ground.phase }, { on := 2, ground := Go.Ground.phase }, { on := 3, ground := Go.Ground.phase }, { on := 4, ground := Go.Ground.phase }, { on := 5, ground := Go.Ground.phase }, { on := 6, ground := Go.Ground.phase }, { on := 7, ground := Go.Ground.phase }, { on := 8, ground := Go.Ground.phase }, { on := 9, ground := Go.Ground.phase }, { on := 10, ground := Go.Ground.phase }, { on := 11, ground := Go.Ground.phase }], guard := none }) (v := ?v9) rfl (by kernel_rfl) (by kernel_rfl) (by kernel_rfl) (fun _ _ _ h => h) (Or.inl ⟨by rfl, ?hy9⟩) (by assumption) ?_
  case hy9 => (intro w hSw; (try dsimp only at hSw); go_simp; try with_reducible rfl)
  try simp only [Act.put, List.setIfInBounds_toArray, List.set_cons_zero, List.set_cons_succ]
  refine wpAnyH_done (by kernel_rfl) ?_ _
  go_wp2_with fail
  go_ret
  exact ⟨ret_i (by rw [or2]; rfl), Gr.then hw0 (by (repeat' first | with_reducible exact Gr.refl _ | with_reducible assumption | with_reducible refine Gr.drew ?_ | with_reducible refine Gr.drewN ?_ _ | with_reducible refine Gr.alloc ?_ _ | with_reducible refine Gr.then ?_ (by with_reducible assumption)))⟩
end Go.Proofs.YtonadloonidmjaaDoor

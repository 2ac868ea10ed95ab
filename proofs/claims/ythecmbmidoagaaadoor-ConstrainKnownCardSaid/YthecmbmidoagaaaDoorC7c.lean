/- The contracts of 'holds' (the program's) and of 'Condition' (the reference's). Conditions: what the arguments read as; a place that there is; a test within its bounds. -/
import Derived.Test.YthecmbmidoagaaaDoorC7b
import Derived.Deep.RegionHeld3
namespace Go.Proofs.YthecmbmidoagaaaDoor
open Go.RowKit
open Pl

theorem box6 {w w' : World} {g : Nat} {v0 v1 v2 v3 v4 v5 : Value} {e : TypeId} {fz : Nat × Nat} (h : w.heap[g]? = some (.cells #[v0, v1, v2, v3, v4, v5] e fz)) (hb : Bw w w') :
    w'.cell? ⟨g, 0, none⟩ = some v0 ∧ w'.cell? ⟨g, 1, none⟩ = some v1 ∧ w'.cell? ⟨g, 2, none⟩ = some v2 ∧ w'.cell? ⟨g, 3, none⟩ = some v3 ∧ w'.cell? ⟨g, 4, none⟩ = some v4 ∧ w'.cell? ⟨g, 5, none⟩ = some v5 := by
  have e := row_bw hb h
  refine ⟨?_, ?_, ?_, ?_, ?_, ?_⟩ <;> (rw [cell_of_row w' _ _ _ _ _ e]; rfl)

set_option maxRecDepth 100000 in
set_option maxHeartbeats 4000000 in
theorem holds_any {t : Tst} {u1 u2 v : Value} {l : List Coh} {i : Int} {w : World} (h1 : Rd tStr w u1 t.tags) (h2 : Rd tStr w u2 t.bar) (hl : Rd tCoh w v l) (hi : 0 ≤ i ∧ i < l.length) (ha : -99 ≤ t.at' ∧ t.at' ≤ 99) (hm : l.length ≤ 200) :
    Calls Tryd.prog 36 #[.agg #[.int .i64 t.at', .bool t.scan, .bool t.neg, .bool t.care, u1, u2], v, .int .i64 i] w fun e w' => e = .returned (.bool (holdB t l i)) ∧ Bw w w' := by
  obtain ⟨at', scan, neg, care, tags, bar⟩ := t
  simp only at *
  have Hv : Hid (holdB ⟨at', scan, neg, care, tags, bar⟩ l i = (condB ⟨at', scan, neg, care, tags, bar⟩ l i != neg)) := rfl
  have hb1 := bw_refl_al w (.cells #[.int .i64 at', .bool scan, .bool neg, .bool care, u1, u2] 28)
  have HC := Lib.hid (fun (W : World) (k : Bw w W) => cond_any (t := ⟨at', scan, neg, care, tags, bar⟩) (h1.after k) (h2.after k) (hl.after k) hi ha hm)
  have K : ∀ w', Bw (w.alloc (.cells #[.int .i64 at', .bool scan, .bool neg, .bool care, u1, u2] 28)) w' → w'.cell? ⟨w.heap.size, 0, none⟩ = some (.int .i64 at') ∧ w'.cell? ⟨w.heap.size, 1, none⟩ = some (.bool scan) ∧ w'.cell? ⟨w.heap.size, 2, none⟩ = some (.bool neg) ∧ w'.cell? ⟨w.heap.size, 3, none⟩ = some (.bool care) ∧ w'.cell? ⟨w.heap.size, 4, none⟩ = some (u1) ∧ w'.cell? ⟨w.heap.size, 5, none⟩ = some (u2) := fun w' k => box6 (at_new rfl) k
  clear h1 h2 hl
  generalize holdB ⟨at', scan, neg, care, tags, bar⟩ l i = R at *
  generalize condB ⟨at', scan, neg, care, tags, bar⟩ l i = q at *
  have HR : Hid ((q != neg) = R) := Hv.out.symm
  clear Hv
  cases q <;> cases neg
  · go_enter Tryd.func36, Tryd.ntmps36
    go_wp2_with fail
    go_region_held3 (fun w' => w'.cell? ⟨w.heap.size, 0, none⟩ = some (.int .i64 at') ∧ w'.cell? ⟨w.heap.size, 1, none⟩ = some (.bool scan) ∧ w'.cell? ⟨w.heap.size, 2, none⟩ = some (.bool false) ∧ w'.cell? ⟨w.heap.size, 3, none⟩ = some (.bool care) ∧ w'.cell? ⟨w.heap.size, 4, none⟩ = some (u1) ∧ w'.cell? ⟨w.heap.size, 5, none⟩ = some (u2))
      (exact K _ (by (repeat' first | with_reducible exact Below.refl _ _ | with_reducible refine Bw.then ?_ hbA | with_reducible refine Bw.then ?_ hbB | with_reducible refine Bw.drew ?_ | with_reducible refine Bw.drewN ?_ _)))
      (first | (go_at_call 52; (with_reducible refine (HC.out _ (hb1.then (by (repeat' first | with_reducible exact Below.refl _ _ | with_reducible refine Bw.then ?_ hbA | with_reducible refine Bw.then ?_ hbB | with_reducible refine Bw.drew ?_ | with_reducible refine Bw.drewN ?_ _)))).mono ?_); rintro e wA ⟨rfl, hbA⟩))
    go_wp2_with fail
    go_ret
    exact ⟨ret_b HR.out, hb1.then (by (repeat' first | with_reducible exact Below.refl _ _ | with_reducible refine Bw.then ?_ hbA | with_reducible refine Bw.then ?_ hbB | with_reducible refine Bw.drew ?_ | with_reducible refine Bw.drewN ?_ _))⟩
  · go_enter Tryd.func36, Tryd.ntmps36
    go_wp2_with fail
    go_region_held3 (fun w' => w'.cell? ⟨w.heap.size, 0, none⟩ = some (.int .i64 at') ∧ w'.cell? ⟨w.heap.size, 1, none⟩ = some (.bool scan) ∧ w'.cell? ⟨w.heap.size, 2, none⟩ = some (.bool true) ∧ w'.cell? ⟨w.heap.size, 3, none⟩ = some (.bool care) ∧ w'.cell? ⟨w.heap.size, 4, none⟩ = some (u1) ∧ w'.cell? ⟨w.heap.size, 5, none⟩ = some (u2))
      (exact K _ (by (repeat' first | with_reducible exact Below.refl _ _ | with_reducible refine Bw.then ?_ hbA | with_reducible refine Bw.then ?_ hbB | with_reducible refine Bw.drew ?_ | with_reducible refine Bw.drewN ?_ _)))
      (first | (go_at_call 52; (with_reducible refine (HC.out _ (hb1.then (by (repeat' first | with_reducible exact Below.refl _ _ | with_reducible refine Bw.then ?_ hbA | with_reducible refine Bw.then ?_ hbB | with_reducible refine Bw.drew ?_ | with_reducible refine Bw.drewN ?_ _)))).mono ?_); rintro e wA ⟨rfl, hbA⟩))
    go_wp2_with fail
    go_ret
    exact ⟨ret_b HR.out, hb1.then (by (repeat' first | with_reducible exact Below.refl _ _ | with_reducible refine Bw.then ?_ hbA | with_reducible refine Bw.then ?_ hbB | with_reducible refine Bw.drew ?_ | with_reducible refine Bw.drewN ?_ _))⟩
  · go_enter Tryd.func36, Tryd.ntmps36
    go_wp2_with fail
    go_region_held3 (fun w' => w'.cell? ⟨w.heap.size, 0, none⟩ = some (.int .i64 at') ∧ w'.cell? ⟨w.heap.size, 1, none⟩ = some (.bool scan) ∧ w'.cell? ⟨w.heap.size, 2, none⟩ = some (.bool false) ∧ w'.cell? ⟨w.heap.size, 3, none⟩ = some (.bool care) ∧ w'.cell? ⟨w.heap.size, 4, none⟩ = some (u1) ∧ w'.cell? ⟨w.heap.size, 5, none⟩ = some (u2))
      (exact K _ (by (repeat' first | with_reducible exact Below.refl _ _ | with_reducible refine Bw.then ?_ hbA | with_reducible refine Bw.then ?_ hbB | with_reducible refine Bw.drew ?_ | with_reducible refine Bw.drewN ?_ _)))
      (first | (go_at_call 52; (with_reducible refine (HC.out _ (hb1.then (by (repeat' first | with_reducible exact Below.refl _ _ | with_reducible refine Bw.then ?_ hbA | with_reducible refine Bw.then ?_ hbB | with_reducible refine Bw.drew ?_ | with_reducible refine Bw.drewN ?_ _)))).mono ?_); rintro e wA ⟨rfl, hbA⟩))
    go_wp2_with fail
    go_ret
    exact ⟨ret_b HR.out, hb1.then (by (repeat' first | with_reducible exact Below.refl _ _ | with_reducible refine Bw.then ?_ hbA | with_reducible refine Bw.then ?_ hbB | with_reducible refine Bw.drew ?_ | with_reducible refine Bw.drewN ?_ _))⟩
  · go_enter Tryd.func36, Tryd.ntmps36
    go_wp2_with fail
    go_region_held3 (fun w' => w'.cell? ⟨w.heap.size, 0, none⟩ = some (.int .i64 at') ∧ w'.cell? ⟨w.heap.size, 1, none⟩ = some (.bool scan) ∧ w'.cell? ⟨w.heap.size, 2, none⟩ = some (.bool true) ∧ w'.cell? ⟨w.heap.size, 3, none⟩ = some (.bool care) ∧ w'.cell? ⟨w.heap.size, 4, none⟩ = some (u1) ∧ w'.cell? ⟨w.heap.size, 5, none⟩ = some (u2))
      (exact K _ (by (repeat' first | with_reducible exact Below.refl _ _ | with_reducible refine Bw.then ?_ hbA | with_reducible refine Bw.then ?_ hbB | with_reducible refine Bw.drew ?_ | with_reducible refine Bw.drewN ?_ _)))
      (first | (go_at_call 52; (with_reducible refine (HC.out _ (hb1.then (by (repeat' first | with_reducible exact Below.refl _ _ | with_reducible refine Bw.then ?_ hbA | with_reducible refine Bw.then ?_ hbB | with_reducible refine Bw.drew ?_ | with_reducible refine Bw.drewN ?_ _)))).mono ?_); rintro e wA ⟨rfl, hbA⟩))
    go_wp2_with fail
    go_ret
    exact ⟨ret_b HR.out, hb1.then (by (repeat' first | with_reducible exact Below.refl _ _ | with_reducible refine Bw.then ?_ hbA | with_reducible refine Bw.then ?_ hbB | with_reducible refine Bw.drew ?_ | with_reducible refine Bw.drewN ?_ _))⟩

set_option maxRecDepth 100000 in
set_option maxHeartbeats 4000000 in
theorem rcond_any {t : Tst} {u1 u2 v : Value} {l : List Coh} {i : Int} {w : World} (h1 : Rd tStr w u1 t.tags) (h2 : Rd tStr w u2 t.bar) (hl : Rd tCoh w v l) (hi : 0 ≤ i ∧ i < l.length) (ha : -99 ≤ t.at' ∧ t.at' ≤ 99) (hm : l.length ≤ 200) :
    Calls Tryd.prog 39 #[.agg #[.int .i64 t.at', .bool t.scan, .bool t.neg, .bool t.care, u1, u2], v, .int .i64 i] w fun e w' => e = .returned (.bool (condB t l i)) ∧ Bw w w' := by
  obtain ⟨at', scan, neg, care, tags, bar⟩ := t
  simp only at *
  obtain ⟨A, c, rfl, _, _⟩ := hl.form
  have hw0 : (-9223372036854775808 : Int) ≤ i + at' ∧ i + at' ≤ 9223372036854775807 := by omega
  have hwr : IntKind.i64.wrap (i + at') = i + at' := IntWalk.i64_in _ (by omega)
  cases scan
  · have Hv : Hid (condB ⟨at', false, neg, care, tags, bar⟩ l i = match atI l (i + at') with | none => false | some c => matB ⟨at', false, neg, care, tags, bar⟩ c) := rfl
    have hb1 := bw_refl_al w (.cells #[.int .i64 at', .bool false, .bool neg, .bool care, u1, u2] 28)
    have K : ∀ w', Bw (w.alloc (.cells #[.int .i64 at', .bool false, .bool neg, .bool care, u1, u2] 28)) w' → w'.cell? ⟨w.heap.size, 0, none⟩ = some (.int .i64 at') ∧ w'.cell? ⟨w.heap.size, 1, none⟩ = some (.bool false) ∧ w'.cell? ⟨w.heap.size, 2, none⟩ = some (.bool neg) ∧ w'.cell? ⟨w.heap.size, 3, none⟩ = some (.bool care) ∧ w'.cell? ⟨w.heap.size, 4, none⟩ = some (u1) ∧ w'.cell? ⟨w.heap.size, 5, none⟩ = some (u2) := fun w' k => box6 (at_new rfl) k
    generalize condB ⟨at', false, neg, care, tags, bar⟩ l i = R at *
    obtain ⟨k, hk⟩ : ∃ k, k = i + at' := ⟨_, rfl⟩
    rw [← hk] at Hv hw0 hwr
    have hk' := hk.symm
    clear hk
    by_cases hin : 0 ≤ k ∧ k < l.length
    · have g1 : decide ((0 : Int) ≤ k) = true := decide_eq_true hin.1
      have g2 : decide (k < (l.length : Int)) = true := decide_eq_true hin.2
      have hk0 : 0 ≤ k := hin.1
      have hk1 : k < l.length := hin.2
      have g3 : k.toNat < l.length := by omega
      obtain ⟨b, off, y, u, rfl, hy, _, hyr, hc0, hc1⟩ := (hl.after hb1).coh (k := k.toNat) (by omega)
      obtain ⟨fm, rs⟩ := y
      simp only at *
      have HM := Lib.hid (fun (W : World) (kk : Bw (w.alloc (.cells #[.int .i64 at', .bool false, .bool neg, .bool care, u1, u2] 28)) W) => rmat_any (t := ⟨at', false, neg, care, tags, bar⟩) (u2 := u2) (c := (fm, rs)) (h1.after (hb1.then kk)) (hyr.rd.after kk))
      have HB := Lib.hid (fun (W : World) (kk : Bw (w.alloc (.cells #[.int .i64 at', .bool false, .bool neg, .bool care, u1, u2] 28)) W) => rbar_any (t := ⟨at', false, neg, care, tags, bar⟩) (u1 := u1) (c := (fm, rs)) (h2.after (hb1.then kk)) (hyr.rd.after kk))
      have K8 : ∀ w', Bw (w.alloc (.cells #[.int .i64 at', .bool false, .bool neg, .bool care, u1, u2] 28)) w' → w'.cell? ⟨w.heap.size, 0, none⟩ = some (.int .i64 at') ∧ w'.cell? ⟨w.heap.size, 1, none⟩ = some (.bool false) ∧ w'.cell? ⟨w.heap.size, 2, none⟩ = some (.bool neg) ∧ w'.cell? ⟨w.heap.size, 3, none⟩ = some (.bool care) ∧ w'.cell? ⟨w.heap.size, 4, none⟩ = some (u1) ∧ w'.cell? ⟨w.heap.size, 5, none⟩ = some (u2) ∧ w'.cell? ⟨b, off + k.toNat * 2, none⟩ = some (.string fm) ∧ w'.cell? ⟨b, off + k.toNat * 2 + 1, none⟩ = some u := fun w' kk => by
        obtain ⟨e0, e1, e2, e3, e4, e5⟩ := K w' (kk)
        exact ⟨e0, e1, e2, e3, e4, e5, bw_cell kk hc0, bw_cell kk hc1⟩
      have HR : Hid (matB ⟨at', false, neg, care, tags, bar⟩ (fm, rs) = R) := by show _ = _; rw [Hv.out, atI_in hin, hy.out]
      clear Hv h1 h2 hl hyr hc0 hc1 hi ha hin HB
      generalize matB ⟨at', false, neg, care, tags, bar⟩ (fm, rs) = q at *
      go_enter Tryd.func39, Tryd.ntmps39
      go_wp2_with fail
      go_region_held3 (fun w' => w'.cell? ⟨w.heap.size, 0, none⟩ = some (.int .i64 at') ∧ w'.cell? ⟨w.heap.size, 1, none⟩ = some (.bool false) ∧ w'.cell? ⟨w.heap.size, 2, none⟩ = some (.bool neg) ∧ w'.cell? ⟨w.heap.size, 3, none⟩ = some (.bool care) ∧ w'.cell? ⟨w.heap.size, 4, none⟩ = some (u1) ∧ w'.cell? ⟨w.heap.size, 5, none⟩ = some (u2) ∧ w'.cell? ⟨b, off + k.toNat * 2, none⟩ = some (.string fm) ∧ w'.cell? ⟨b, off + k.toNat * 2 + 1, none⟩ = some u)
        (exact K8 _ (by (repeat' first | with_reducible exact Below.refl _ _ | with_reducible refine Bw.then ?_ hbA | with_reducible refine Bw.then ?_ hbB | with_reducible refine Bw.drew ?_ | with_reducible refine Bw.drewN ?_ _)))
        (first | (go_at_call 54; (with_reducible refine (HM.out _ (by (repeat' first | with_reducible exact Below.refl _ _ | with_reducible refine Bw.then ?_ hbA | with_reducible refine Bw.then ?_ hbB | with_reducible refine Bw.drew ?_ | with_reducible refine Bw.drewN ?_ _))).mono ?_); rintro e wA ⟨rfl, hbA⟩))
      go_wp2_with fail
      go_ret
      exact ⟨ret_b HR.out, hb1.then (by (repeat' first | with_reducible exact Below.refl _ _ | with_reducible refine Bw.then ?_ hbA | with_reducible refine Bw.then ?_ hbB | with_reducible refine Bw.drew ?_ | with_reducible refine Bw.drewN ?_ _))⟩
    · have HR : Hid (false = R) := by show _ = _; rw [Hv.out, atI_out hin]
      clear Hv h1 h2 hl hi ha
      by_cases hk0 : 0 ≤ k
      · have g1 : decide ((0 : Int) ≤ k) = true := decide_eq_true hk0
        have g2 : decide (k < (l.length : Int)) = false := decide_eq_false (by omega)
        have hk1 : ¬ k < l.length := by omega
        clear hin
        go_enter Tryd.func39, Tryd.ntmps39
        go_wp2_with fail
        go_quiet (fail)
        go_wp2_with fail
        go_ret
        exact ⟨ret_b HR.out, hb1.drewN _⟩
      · have g1 : decide ((0 : Int) ≤ k) = false := decide_eq_false hk0
        clear hin
        go_enter Tryd.func39, Tryd.ntmps39
        go_wp2_with fail
        go_quiet (fail)
        go_wp2_with fail
        go_ret
        exact ⟨ret_b HR.out, hb1.drewN _⟩
  · have hb1 := bw_refl_al w (.cells #[.int .i64 at', .bool true, .bool neg, .bool care, u1, u2] 28)
    have K : ∀ w', Bw (w.alloc (.cells #[.int .i64 at', .bool true, .bool neg, .bool care, u1, u2] 28)) w' → w'.cell? ⟨w.heap.size, 0, none⟩ = some (.int .i64 at') ∧ w'.cell? ⟨w.heap.size, 1, none⟩ = some (.bool true) ∧ w'.cell? ⟨w.heap.size, 2, none⟩ = some (.bool neg) ∧ w'.cell? ⟨w.heap.size, 3, none⟩ = some (.bool care) ∧ w'.cell? ⟨w.heap.size, 4, none⟩ = some (u1) ∧ w'.cell? ⟨w.heap.size, 5, none⟩ = some (u2) := fun w' k => box6 (at_new rfl) k
    have Hv : Hid (scanF ⟨at', true, neg, care, tags, bar⟩ l (if at' < 0 then -1 else 1) (l.length + 1) (i + at') = condB ⟨at', true, neg, care, tags, bar⟩ l i) := rfl
    generalize condB ⟨at', true, neg, care, tags, bar⟩ l i = R at *
    obtain ⟨W1, hW1⟩ : ∃ W1, W1 = w.alloc (.cells #[.int .i64 at', .bool true, .bool neg, .bool care, u1, u2] 28) := ⟨_, rfl⟩
    rw [← hW1] at hb1 K
    have hor : at' < 0 ∨ ¬ at' < 0 := by omega
    rcases hor with hneg | hneg
    · have Hs : Hid (scanF ⟨at', true, neg, care, tags, bar⟩ l (-1) (l.length + 1) (i + at') = R) := by show _ = _; rw [← Hv.out]; simp [hneg]
      clear Hv
      go_enter Tryd.func39, Tryd.ntmps39
      go_wp2_with fail
      rw [← hW1]
      go_loopw [7] (fun kk wr => ∃ (k : Int) (f : Nat), kk = .int .i64 k ∧ (-9223372036854775808 ≤ k ∧ k ≤ 9223372036854775807) ∧ Hid (scanF ⟨at', true, neg, care, tags, bar⟩ l (-1) f k = R) ∧ (0 ≤ k ∧ k < l.length → fuV l.length (-1) k ≤ f) ∧ Bw W1 wr) (fun kk _ => fuV l.length (-1) (intOf kk))
      case atStart => exact ⟨_, _, rfl, hw0, Hs.out, fun h => by unfold fuV; simp; omega, Below.refl _ _⟩
      case round =>
        obtain ⟨k, f, rfl, hkb, HP, hfu, hd⟩ := hrel
        have hbw := hb1.then hd
        by_cases hin : 0 ≤ k ∧ k < l.length
        · have hk0 : 0 ≤ k := hin.1
          have hk1 : k < l.length := hin.2
          have g3 : k.toNat < l.length := by omega
          have hf := hfu hin
          obtain ⟨f', rfl⟩ : ∃ f', f = f' + 1 := ⟨f - 1, by unfold fuV at hf; simp at hf; omega⟩
          obtain ⟨b, off, y, u, rfl, hy, _, hyr, hc0, hc1⟩ := (hl.after hbw).coh (k := k.toNat) (by omega)
          obtain ⟨fm, rs⟩ := y
          simp only at *
          have HM := Lib.hid (fun (W : World) (kk : Bw wr W) => rmat_any (t := ⟨at', true, neg, care, tags, bar⟩) (u2 := u2) (c := (fm, rs)) (h1.after (hbw.then kk)) (hyr.rd.after kk))
          have HB := Lib.hid (fun (W : World) (kk : Bw wr W) => rbar_any (t := ⟨at', true, neg, care, tags, bar⟩) (u1 := u1) (c := (fm, rs)) (h2.after (hbw.then kk)) (hyr.rd.after kk))
          have K8 : ∀ w', Bw wr w' → w'.cell? ⟨w.heap.size, 0, none⟩ = some (.int .i64 at') ∧ w'.cell? ⟨w.heap.size, 1, none⟩ = some (.bool true) ∧ w'.cell? ⟨w.heap.size, 2, none⟩ = some (.bool neg) ∧ w'.cell? ⟨w.heap.size, 3, none⟩ = some (.bool care) ∧ w'.cell? ⟨w.heap.size, 4, none⟩ = some (u1) ∧ w'.cell? ⟨w.heap.size, 5, none⟩ = some (u2) ∧ w'.cell? ⟨b, off + k.toNat * 2, none⟩ = some (.string fm) ∧ w'.cell? ⟨b, off + k.toNat * 2 + 1, none⟩ = some u := fun w' kk => by
            obtain ⟨e0, e1, e2, e3, e4, e5⟩ := K w' (hd.then kk)
            exact ⟨e0, e1, e2, e3, e4, e5, bw_cell kk hc0, bw_cell kk hc1⟩
          have HP2 : Hid ((if matB ⟨at', true, neg, care, tags, bar⟩ (fm, rs) then true else if barB ⟨at', true, neg, care, tags, bar⟩ (fm, rs) then false else scanF ⟨at', true, neg, care, tags, bar⟩ l (-1) f' (k + (-1))) = R) := by
            show _ = _
            rw [← HP.out]
            conv => rhs; unfold scanF
            rw [atI_in hin, hy.out]
          clear HP h1 h2 hl hyr hc0 hc1 hy Hs hW1
          generalize matB ⟨at', true, neg, care, tags, bar⟩ (fm, rs) = q at *
          generalize barB ⟨at', true, neg, care, tags, bar⟩ (fm, rs) = q2 at *
          cases q
          · cases q2
            · go_wp2_with fail
              go_region_held3 (fun w' => w'.cell? ⟨w.heap.size, 0, none⟩ = some (.int .i64 at') ∧ w'.cell? ⟨w.heap.size, 1, none⟩ = some (.bool true) ∧ w'.cell? ⟨w.heap.size, 2, none⟩ = some (.bool neg) ∧ w'.cell? ⟨w.heap.size, 3, none⟩ = some (.bool care) ∧ w'.cell? ⟨w.heap.size, 4, none⟩ = some (u1) ∧ w'.cell? ⟨w.heap.size, 5, none⟩ = some (u2) ∧ w'.cell? ⟨b, off + k.toNat * 2, none⟩ = some (.string fm) ∧ w'.cell? ⟨b, off + k.toNat * 2 + 1, none⟩ = some u)
                (exact K8 _ (by (repeat' first | with_reducible exact Below.refl _ _ | with_reducible refine Bw.then ?_ hbA | with_reducible refine Bw.then ?_ hbB | with_reducible refine Bw.drew ?_ | with_reducible refine Bw.drewN ?_ _)))
                (first | (go_at_call 54; (with_reducible refine (HM.out _ (by (repeat' first | with_reducible exact Below.refl _ _ | with_reducible refine Bw.then ?_ hbA | with_reducible refine Bw.then ?_ hbB | with_reducible refine Bw.drew ?_ | with_reducible refine Bw.drewN ?_ _))).mono ?_); rintro e wA ⟨rfl, hbA⟩))
              go_wp2_with fail
              go_region_held3 (fun w' => w'.cell? ⟨w.heap.size, 0, none⟩ = some (.int .i64 at') ∧ w'.cell? ⟨w.heap.size, 1, none⟩ = some (.bool true) ∧ w'.cell? ⟨w.heap.size, 2, none⟩ = some (.bool neg) ∧ w'.cell? ⟨w.heap.size, 3, none⟩ = some (.bool care) ∧ w'.cell? ⟨w.heap.size, 4, none⟩ = some (u1) ∧ w'.cell? ⟨w.heap.size, 5, none⟩ = some (u2) ∧ w'.cell? ⟨b, off + k.toNat * 2, none⟩ = some (.string fm) ∧ w'.cell? ⟨b, off + k.toNat * 2 + 1, none⟩ = some u)
                (exact K8 _ (by (repeat' first | with_reducible exact Below.refl _ _ | with_reducible refine Bw.then ?_ hbA | with_reducible refine Bw.then ?_ hbB | with_reducible refine Bw.drew ?_ | with_reducible refine Bw.drewN ?_ _)))
                (first | (go_at_call 55; (with_reducible refine (HB.out _ (by (repeat' first | with_reducible exact Below.refl _ _ | with_reducible refine Bw.then ?_ hbA | with_reducible refine Bw.then ?_ hbB | with_reducible refine Bw.drew ?_ | with_reducible refine Bw.drewN ?_ _))).mono ?_); rintro e wB ⟨rfl, hbB⟩))
              go_wp2_with fail
              exact ⟨⟨k + (-1), f', by go_num, by omega, HP2.out, fun h => by unfold fuV at hf ⊢; simp at hf ⊢; omega, hd.then (by (repeat' first | with_reducible exact Below.refl _ _ | with_reducible refine Bw.then ?_ hbA | with_reducible refine Bw.then ?_ hbB | with_reducible refine Bw.drew ?_ | with_reducible refine Bw.drewN ?_ _))⟩, by simp [intOf, fuV]; try omega⟩
            · go_wp2_with fail
              go_region_held3 (fun w' => w'.cell? ⟨w.heap.size, 0, none⟩ = some (.int .i64 at') ∧ w'.cell? ⟨w.heap.size, 1, none⟩ = some (.bool true) ∧ w'.cell? ⟨w.heap.size, 2, none⟩ = some (.bool neg) ∧ w'.cell? ⟨w.heap.size, 3, none⟩ = some (.bool care) ∧ w'.cell? ⟨w.heap.size, 4, none⟩ = some (u1) ∧ w'.cell? ⟨w.heap.size, 5, none⟩ = some (u2) ∧ w'.cell? ⟨b, off + k.toNat * 2, none⟩ = some (.string fm) ∧ w'.cell? ⟨b, off + k.toNat * 2 + 1, none⟩ = some u)
                (exact K8 _ (by (repeat' first | with_reducible exact Below.refl _ _ | with_reducible refine Bw.then ?_ hbA | with_reducible refine Bw.then ?_ hbB | with_reducible refine Bw.drew ?_ | with_reducible refine Bw.drewN ?_ _)))
                (first | (go_at_call 54; (with_reducible refine (HM.out _ (by (repeat' first | with_reducible exact Below.refl _ _ | with_reducible refine Bw.then ?_ hbA | with_reducible refine Bw.then ?_ hbB | with_reducible refine Bw.drew ?_ | with_reducible refine Bw.drewN ?_ _))).mono ?_); rintro e wA ⟨rfl, hbA⟩))
              go_wp2_with fail
              go_region_held3 (fun w' => w'.cell? ⟨w.heap.size, 0, none⟩ = some (.int .i64 at') ∧ w'.cell? ⟨w.heap.size, 1, none⟩ = some (.bool true) ∧ w'.cell? ⟨w.heap.size, 2, none⟩ = some (.bool neg) ∧ w'.cell? ⟨w.heap.size, 3, none⟩ = some (.bool care) ∧ w'.cell? ⟨w.heap.size, 4, none⟩ = some (u1) ∧ w'.cell? ⟨w.heap.size, 5, none⟩ = some (u2) ∧ w'.cell? ⟨b, off + k.toNat * 2, none⟩ = some (.string fm) ∧ w'.cell? ⟨b, off + k.toNat * 2 + 1, none⟩ = some u)
                (exact K8 _ (by (repeat' first | with_reducible exact Below.refl _ _ | with_reducible refine Bw.then ?_ hbA | with_reducible refine Bw.then ?_ hbB | with_reducible refine Bw.drew ?_ | with_reducible refine Bw.drewN ?_ _)))
                (first | (go_at_call 55; (with_reducible refine (HB.out _ (by (repeat' first | with_reducible exact Below.refl _ _ | with_reducible refine Bw.then ?_ hbA | with_reducible refine Bw.then ?_ hbB | with_reducible refine Bw.drew ?_ | with_reducible refine Bw.drewN ?_ _))).mono ?_); rintro e wB ⟨rfl, hbB⟩))
              go_wp2_with fail
              go_ret
              exact ⟨ret_b HP2.out, hbw.then (by (repeat' first | with_reducible exact Below.refl _ _ | with_reducible refine Bw.then ?_ hbA | with_reducible refine Bw.then ?_ hbB | with_reducible refine Bw.drew ?_ | with_reducible refine Bw.drewN ?_ _))⟩
          · go_wp2_with fail
            go_region_held3 (fun w' => w'.cell? ⟨w.heap.size, 0, none⟩ = some (.int .i64 at') ∧ w'.cell? ⟨w.heap.size, 1, none⟩ = some (.bool true) ∧ w'.cell? ⟨w.heap.size, 2, none⟩ = some (.bool neg) ∧ w'.cell? ⟨w.heap.size, 3, none⟩ = some (.bool care) ∧ w'.cell? ⟨w.heap.size, 4, none⟩ = some (u1) ∧ w'.cell? ⟨w.heap.size, 5, none⟩ = some (u2) ∧ w'.cell? ⟨b, off + k.toNat * 2, none⟩ = some (.string fm) ∧ w'.cell? ⟨b, off + k.toNat * 2 + 1, none⟩ = some u)
              (exact K8 _ (by (repeat' first | with_reducible exact Below.refl _ _ | with_reducible refine Bw.then ?_ hbA | with_reducible refine Bw.then ?_ hbB | with_reducible refine Bw.drew ?_ | with_reducible refine Bw.drewN ?_ _)))
              (first | (go_at_call 54; (with_reducible refine (HM.out _ (by (repeat' first | with_reducible exact Below.refl _ _ | with_reducible refine Bw.then ?_ hbA | with_reducible refine Bw.then ?_ hbB | with_reducible refine Bw.drew ?_ | with_reducible refine Bw.drewN ?_ _))).mono ?_); rintro e wA ⟨rfl, hbA⟩))
            go_wp2_with fail
            go_ret
            exact ⟨ret_b HP2.out, hbw.then (by (repeat' first | with_reducible exact Below.refl _ _ | with_reducible refine Bw.then ?_ hbA | with_reducible refine Bw.then ?_ hbB | with_reducible refine Bw.drew ?_ | with_reducible refine Bw.drewN ?_ _))⟩
        · have HR : Hid (false = R) := by
            show _ = _
            rw [← HP.out]
            cases f with
            | zero => rfl
            | succ f => unfold scanF; rw [atI_out hin]
          clear HP h1 h2 hl Hs hW1 hfu
          by_cases hk0 : 0 ≤ k
          · have hk1 : ¬ k < l.length := by omega
            clear hin
            go_wp2_with fail
            go_ret
            exact ⟨ret_b HR.out, hbw⟩
          · clear hin
            go_wp2_with fail
            go_ret
            exact ⟨ret_b HR.out, hbw⟩
    · have Hs : Hid (scanF ⟨at', true, neg, care, tags, bar⟩ l (1) (l.length + 1) (i + at') = R) := by show _ = _; rw [← Hv.out]; simp [hneg]
      clear Hv
      go_enter Tryd.func39, Tryd.ntmps39
      go_wp2_with fail
      rw [← hW1]
      go_loopw [7] (fun kk wr => ∃ (k : Int) (f : Nat), kk = .int .i64 k ∧ (-9223372036854775808 ≤ k ∧ k ≤ 9223372036854775807) ∧ Hid (scanF ⟨at', true, neg, care, tags, bar⟩ l (1) f k = R) ∧ (0 ≤ k ∧ k < l.length → fuV l.length (1) k ≤ f) ∧ Bw W1 wr) (fun kk _ => fuV l.length (1) (intOf kk))
      case atStart => exact ⟨_, _, rfl, hw0, Hs.out, fun h => by unfold fuV; simp; omega, Below.refl _ _⟩
      case round =>
        obtain ⟨k, f, rfl, hkb, HP, hfu, hd⟩ := hrel
        have hbw := hb1.then hd
        by_cases hin : 0 ≤ k ∧ k < l.length
        · have hk0 : 0 ≤ k := hin.1
          have hk1 : k < l.length := hin.2
          have g3 : k.toNat < l.length := by omega
          have hf := hfu hin
          obtain ⟨f', rfl⟩ : ∃ f', f = f' + 1 := ⟨f - 1, by unfold fuV at hf; simp at hf; omega⟩
          obtain ⟨b, off, y, u, rfl, hy, _, hyr, hc0, hc1⟩ := (hl.after hbw).coh (k := k.toNat) (by omega)
          obtain ⟨fm, rs⟩ := y
          simp only at *
          have HM := Lib.hid (fun (W : World) (kk : Bw wr W) => rmat_any (t := ⟨at', true, neg, care, tags, bar⟩) (u2 := u2) (c := (fm, rs)) (h1.after (hbw.then kk)) (hyr.rd.after kk))
          have HB := Lib.hid (fun (W : World) (kk : Bw wr W) => rbar_any (t := ⟨at', true, neg, care, tags, bar⟩) (u1 := u1) (c := (fm, rs)) (h2.after (hbw.then kk)) (hyr.rd.after kk))
          have K8 : ∀ w', Bw wr w' → w'.cell? ⟨w.heap.size, 0, none⟩ = some (.int .i64 at') ∧ w'.cell? ⟨w.heap.size, 1, none⟩ = some (.bool true) ∧ w'.cell? ⟨w.heap.size, 2, none⟩ = some (.bool neg) ∧ w'.cell? ⟨w.heap.size, 3, none⟩ = some (.bool care) ∧ w'.cell? ⟨w.heap.size, 4, none⟩ = some (u1) ∧ w'.cell? ⟨w.heap.size, 5, none⟩ = some (u2) ∧ w'.cell? ⟨b, off + k.toNat * 2, none⟩ = some (.string fm) ∧ w'.cell? ⟨b, off + k.toNat * 2 + 1, none⟩ = some u := fun w' kk => by
            obtain ⟨e0, e1, e2, e3, e4, e5⟩ := K w' (hd.then kk)
            exact ⟨e0, e1, e2, e3, e4, e5, bw_cell kk hc0, bw_cell kk hc1⟩
          have HP2 : Hid ((if matB ⟨at', true, neg, care, tags, bar⟩ (fm, rs) then true else if barB ⟨at', true, neg, care, tags, bar⟩ (fm, rs) then false else scanF ⟨at', true, neg, care, tags, bar⟩ l (1) f' (k + (1))) = R) := by
            show _ = _
            rw [← HP.out]
            conv => rhs; unfold scanF
            rw [atI_in hin, hy.out]
          clear HP h1 h2 hl hyr hc0 hc1 hy Hs hW1
          generalize matB ⟨at', true, neg, care, tags, bar⟩ (fm, rs) = q at *
          generalize barB ⟨at', true, neg, care, tags, bar⟩ (fm, rs) = q2 at *
          cases q
          · cases q2
            · go_wp2_with fail
              go_region_held3 (fun w' => w'.cell? ⟨w.heap.size, 0, none⟩ = some (.int .i64 at') ∧ w'.cell? ⟨w.heap.size, 1, none⟩ = some (.bool true) ∧ w'.cell? ⟨w.heap.size, 2, none⟩ = some (.bool neg) ∧ w'.cell? ⟨w.heap.size, 3, none⟩ = some (.bool care) ∧ w'.cell? ⟨w.heap.size, 4, none⟩ = some (u1) ∧ w'.cell? ⟨w.heap.size, 5, none⟩ = some (u2) ∧ w'.cell? ⟨b, off + k.toNat * 2, none⟩ = some (.string fm) ∧ w'.cell? ⟨b, off + k.toNat * 2 + 1, none⟩ = some u)
                (exact K8 _ (by (repeat' first | with_reducible exact Below.refl _ _ | with_reducible refine Bw.then ?_ hbA | with_reducible refine Bw.then ?_ hbB | with_reducible refine Bw.drew ?_ | with_reducible refine Bw.drewN ?_ _)))
                (first | (go_at_call 54; (with_reducible refine (HM.out _ (by (repeat' first | with_reducible exact Below.refl _ _ | with_reducible refine Bw.then ?_ hbA | with_reducible refine Bw.then ?_ hbB | with_reducible refine Bw.drew ?_ | with_reducible refine Bw.drewN ?_ _))).mono ?_); rintro e wA ⟨rfl, hbA⟩))
              go_wp2_with fail
              go_region_held3 (fun w' => w'.cell? ⟨w.heap.size, 0, none⟩ = some (.int .i64 at') ∧ w'.cell? ⟨w.heap.size, 1, none⟩ = some (.bool true) ∧ w'.cell? ⟨w.heap.size, 2, none⟩ = some (.bool neg) ∧ w'.cell? ⟨w.heap.size, 3, none⟩ = some (.bool care) ∧ w'.cell? ⟨w.heap.size, 4, none⟩ = some (u1) ∧ w'.cell? ⟨w.heap.size, 5, none⟩ = some (u2) ∧ w'.cell? ⟨b, off + k.toNat * 2, none⟩ = some (.string fm) ∧ w'.cell? ⟨b, off + k.toNat * 2 + 1, none⟩ = some u)
                (exact K8 _ (by (repeat' first | with_reducible exact Below.refl _ _ | with_reducible refine Bw.then ?_ hbA | with_reducible refine Bw.then ?_ hbB | with_reducible refine Bw.drew ?_ | with_reducible refine Bw.drewN ?_ _)))
                (first | (go_at_call 55; (with_reducible refine (HB.out _ (by (repeat' first | with_reducible exact Below.refl _ _ | with_reducible refine Bw.then ?_ hbA | with_reducible refine Bw.then ?_ hbB | with_reducible refine Bw.drew ?_ | with_reducible refine Bw.drewN ?_ _))).mono ?_); rintro e wB ⟨rfl, hbB⟩))
              go_wp2_with fail
              exact ⟨⟨k + (1), f', by go_num, by omega, HP2.out, fun h => by unfold fuV at hf ⊢; simp at hf ⊢; omega, hd.then (by (repeat' first | with_reducible exact Below.refl _ _ | with_reducible refine Bw.then ?_ hbA | with_reducible refine Bw.then ?_ hbB | with_reducible refine Bw.drew ?_ | with_reducible refine Bw.drewN ?_ _))⟩, by simp [intOf, fuV]; try omega⟩
            · go_wp2_with fail
              go_region_held3 (fun w' => w'.cell? ⟨w.heap.size, 0, none⟩ = some (.int .i64 at') ∧ w'.cell? ⟨w.heap.size, 1, none⟩ = some (.bool true) ∧ w'.cell? ⟨w.heap.size, 2, none⟩ = some (.bool neg) ∧ w'.cell? ⟨w.heap.size, 3, none⟩ = some (.bool care) ∧ w'.cell? ⟨w.heap.size, 4, none⟩ = some (u1) ∧ w'.cell? ⟨w.heap.size, 5, none⟩ = some (u2) ∧ w'.cell? ⟨b, off + k.toNat * 2, none⟩ = some (.string fm) ∧ w'.cell? ⟨b, off + k.toNat * 2 + 1, none⟩ = some u)
                (exact K8 _ (by (repeat' first | with_reducible exact Below.refl _ _ | with_reducible refine Bw.then ?_ hbA | with_reducible refine Bw.then ?_ hbB | with_reducible refine Bw.drew ?_ | with_reducible refine Bw.drewN ?_ _)))
                (first | (go_at_call 54; (with_reducible refine (HM.out _ (by (repeat' first | with_reducible exact Below.refl _ _ | with_reducible refine Bw.then ?_ hbA | with_reducible refine Bw.then ?_ hbB | with_reducible refine Bw.drew ?_ | with_reducible refine Bw.drewN ?_ _))).mono ?_); rintro e wA ⟨rfl, hbA⟩))
              go_wp2_with fail
              go_region_held3 (fun w' => w'.cell? ⟨w.heap.size, 0, none⟩ = some (.int .i64 at') ∧ w'.cell? ⟨w.heap.size, 1, none⟩ = some (.bool true) ∧ w'.cell? ⟨w.heap.size, 2, none⟩ = some (.bool neg) ∧ w'.cell? ⟨w.heap.size, 3, none⟩ = some (.bool care) ∧ w'.cell? ⟨w.heap.size, 4, none⟩ = some (u1) ∧ w'.cell? ⟨w.heap.size, 5, none⟩ = some (u2) ∧ w'.cell? ⟨b, off + k.toNat * 2, none⟩ = some (.string fm) ∧ w'.cell? ⟨b, off + k.toNat * 2 + 1, none⟩ = some u)
                (exact K8 _ (by (repeat' first | with_reducible exact Below.refl _ _ | with_reducible refine Bw.then ?_ hbA | with_reducible refine Bw.then ?_ hbB | with_reducible refine Bw.drew ?_ | with_reducible refine Bw.drewN ?_ _)))
                (first | (go_at_call 55; (with_reducible refine (HB.out _ (by (repeat' first | with_reducible exact Below.refl _ _ | with_reducible refine Bw.then ?_ hbA | with_reducible refine Bw.then ?_ hbB | with_reducible refine Bw.drew ?_ | with_reducible refine Bw.drewN ?_ _))).mono ?_); rintro e wB ⟨rfl, hbB⟩))
              go_wp2_with fail
              go_ret
              exact ⟨ret_b HP2.out, hbw.then (by (repeat' first | with_reducible exact Below.refl _ _ | with_reducible refine Bw.then ?_ hbA | with_reducible refine Bw.then ?_ hbB | with_reducible refine Bw.drew ?_ | with_reducible refine Bw.drewN ?_ _))⟩
          · go_wp2_with fail
            go_region_held3 (fun w' => w'.cell? ⟨w.heap.size, 0, none⟩ = some (.int .i64 at') ∧ w'.cell? ⟨w.heap.size, 1, none⟩ = some (.bool true) ∧ w'.cell? ⟨w.heap.size, 2, none⟩ = some (.bool neg) ∧ w'.cell? ⟨w.heap.size, 3, none⟩ = some (.bool care) ∧ w'.cell? ⟨w.heap.size, 4, none⟩ = some (u1) ∧ w'.cell? ⟨w.heap.size, 5, none⟩ = some (u2) ∧ w'.cell? ⟨b, off + k.toNat * 2, none⟩ = some (.string fm) ∧ w'.cell? ⟨b, off + k.toNat * 2 + 1, none⟩ = some u)
              (exact K8 _ (by (repeat' first | with_reducible exact Below.refl _ _ | with_reducible refine Bw.then ?_ hbA | with_reducible refine Bw.then ?_ hbB | with_reducible refine Bw.drew ?_ | with_reducible refine Bw.drewN ?_ _)))
              (first | (go_at_call 54; (with_reducible refine (HM.out _ (by (repeat' first | with_reducible exact Below.refl _ _ | with_reducible refine Bw.then ?_ hbA | with_reducible refine Bw.then ?_ hbB | with_reducible refine Bw.drew ?_ | with_reducible refine Bw.drewN ?_ _))).mono ?_); rintro e wA ⟨rfl, hbA⟩))
            go_wp2_with fail
            go_ret
            exact ⟨ret_b HP2.out, hbw.then (by (repeat' first | with_reducible exact Below.refl _ _ | with_reducible refine Bw.then ?_ hbA | with_reducible refine Bw.then ?_ hbB | with_reducible refine Bw.drew ?_ | with_reducible refine Bw.drewN ?_ _))⟩
        · have HR : Hid (false = R) := by
            show _ = _
            rw [← HP.out]
            cases f with
            | zero => rfl
            | succ f => unfold scanF; rw [atI_out hin]
          clear HP h1 h2 hl Hs hW1 hfu
          by_cases hk0 : 0 ≤ k
          · have hk1 : ¬ k < l.length := by omega
            clear hin
            go_wp2_with fail
            go_ret
            exact ⟨ret_b HR.out, hbw⟩
          · clear hin
            go_wp2_with fail
            go_ret
            exact ⟨ret_b HR.out, hbw⟩
end Go.Proofs.YthecmbmidoagaaaDoor

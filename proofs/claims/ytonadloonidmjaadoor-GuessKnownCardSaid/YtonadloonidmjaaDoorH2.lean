/- The contracts of the reference's Compare of texts, of its order and of likelier. Conditions: what the slices read as, texts within Go's bounds. -/
import Derived.Test.YtonadloonidmjaaDoorH1
namespace Go.Proofs.YtonadloonidmjaaDoor
open Go.RowKit
open Pl

theorem cb_at {a b : UInt8} : ∀ (k : Nat) (x y : List UInt8), (∀ j, j < k → x[j]? = y[j]?) → x[k]? = some a → y[k]? = some b →
    Lib.compareBytes x y = if a < b then -1 else if b < a then 1 else Lib.compareBytes (x.drop (k + 1)) (y.drop (k + 1))
  | 0, [], _, _, h, _ => by simp at h
  | 0, _ :: _, [], _, _, h => by simp at h
  | 0, p :: x, q :: y, _, h1, h2 => by
    simp at h1 h2
    subst h1; subst h2
    rw [Lib.compareBytes]; rfl
  | k + 1, [], _, _, h, _ => by simp at h
  | k + 1, _ :: _, [], _, _, h => by simp at h
  | k + 1, p :: x, q :: y, hp, h1, h2 => by
    have e : p = q := by have := hp 0 (by omega); simpa using this
    subst e
    have hn : ¬ p < p := by rw [byte_lt]; omega
    rw [Lib.compareBytes, if_neg hn, if_neg hn]
    exact cb_at k x y (fun j hj => by have := hp (j + 1) (by omega); simpa using this) (by simpa using h1) (by simpa using h2)
theorem cb_end : ∀ (x y : List UInt8), (∀ j, j < x.length → j < y.length → x[j]? = y[j]?) → Lib.compareBytes x y = if x.length < y.length then -1 else if y.length < x.length then 1 else 0
  | [], [], _ => rfl
  | [], _ :: _, _ => by simp [Lib.compareBytes]
  | _ :: _, [], _ => by simp [Lib.compareBytes]
  | p :: x, q :: y, h => by
    have e : p = q := by have := h 0 (by simp) (by simp); simpa using this
    subst e
    have hn : ¬ p < p := by rw [byte_lt]; omega
    rw [Lib.compareBytes, if_neg hn, if_neg hn, cb_end x y fun j h1 h2 => by have := h (j + 1) (by simp; omega) (by simp; omega); simpa using this]
    simp only [List.length_cons]
    congr 1
    · simp
    · congr 1; simp
theorem data_at (s : ByteArray) (k : Nat) (h : k < s.size) : s.data.toList[k]? = some (s[k]'h) := by
  rw [Array.getElem?_toList, Array.getElem?_eq_getElem (show k < s.data.size from h)]; rfl
theorem data_len (s : ByteArray) : s.data.toList.length = s.size := by simp

theorem lexC_rngB : ∀ x y : List Int, lexC x y = -1 ∨ lexC x y = 0 ∨ lexC x y = 1
  | [], [] => by simp [lexC]
  | [], _ :: _ => by simp [lexC]
  | _ :: _, [] => by simp [lexC]
  | x :: xs, y :: ys => by
    rw [lexC]
    split
    · simp
    · split
      · simp
      · exact lexC_rngB xs ys
theorem cmpL_rngB (x y : List Int) : -9223372036854775808 ≤ cmpL x y ∧ cmpL x y ≤ 9223372036854775807 := by
  unfold cmpL
  split
  · rcases lexC_rngB x y with h | h | h <;> omega
  · split <;> omega
set_option maxRecDepth 100000 in
theorem bcompare_any (a b : ByteArray) {w : World} (ha : a.size ≤ 9223372036854775807) (_hb : b.size ≤ 9223372036854775807) :
    Calls Tryd.prog 39 #[.string a, .string b] w fun e w' => e = .returned (.int .i64 (cmpB a b)) ∧ Dr w w' := by
  go_enter Tryd.func39, Tryd.ntmps39
  go_wp2
  go_loopw [5] (fun i wr => ∃ k : Nat, k ≤ a.size ∧ k ≤ b.size ∧ i = .int .i64 k ∧ Dr w wr ∧ Pre k (fun j => a.data.toList[j]? = b.data.toList[j]?)) (fun i _ => a.size - (intOf i).toNat)
  case atStart => exact ⟨0, Nat.zero_le _, Nat.zero_le _, rfl, Dr.refl _, Pre.zero⟩
  case round =>
    obtain ⟨k, hk, hk', rfl, hd, hno⟩ := hrel
    by_cases h1 : k < a.size
    · by_cases h2 : k < b.size
      · have e1 := data_at a k h1
        have e2 := data_at b k h2
        have hat := Lib.hid (cb_at k _ _ hno e1 e2)
        have E : Hid ((a[k]'h1 = b[k]'h2) → a.data.toList[k]? = b.data.toList[k]?) := fun e => by rw [e1, e2, e]
        clear e1 e2
        have u1 : (k : Int) < a.size := by omega
        have u2 : (k : Int) < b.size := by omega
        have l1 := (a[k]'h1).toNat_lt
        have l2 := (b[k]'h2).toNat_lt
        have B : Hid ((a[k]'h1 < b[k]'h2 ↔ (a[k]'h1).toNat < (b[k]'h2).toNat) ∧ (b[k]'h2 < a[k]'h1 ↔ (b[k]'h2).toNat < (a[k]'h1).toNat)) := ⟨byte_lt, byte_lt⟩
        by_cases c1 : (a[k]'h1).toNat < (b[k]'h2).toNat
        · go_wp2
          go_quiet (fail)
          go_wp2
          go_ret
          exact ⟨ret_i (by unfold cmpB; rw [hat.out, if_pos (B.out.1.2 c1)]), hd.drewN _⟩
        · by_cases c2 : (b[k]'h2).toNat < (a[k]'h1).toNat
          · go_wp2
            go_quiet (fail)
            go_wp2
            go_quiet (fail)
            go_wp2
            go_ret
            exact ⟨ret_i (by unfold cmpB; rw [hat.out, if_neg (fun h => c1 (B.out.1.1 h)), if_pos (B.out.2.2 c2)]), (hd.drewN _).drewN _⟩
          · go_wp2
            go_quiet (fail)
            go_wp2
            go_quiet (fail)
            go_wp2
            refine ⟨⟨k + 1, h1, h2, by go_num, hd.drewN _, hno.snoc (E.out (byte_eq (fun h => c1 (B.out.1.1 h)) (fun h => c2 (B.out.2.1 h))))⟩, by simp [intOf]; omega⟩
      · have hend : Hid (Lib.compareBytes a.data.toList b.data.toList = if a.size < b.size then -1 else if b.size < a.size then 1 else 0) := by
          show _ = _
          rw [cb_end _ _ (fun j _ hj => hno j (by rw [data_len] at hj; omega)), data_len, data_len]
        have u2 : ¬ (k : Int) < b.size := by omega
        have u1 : (k : Int) < a.size := by omega
        have f1 : ¬ (a.size : Int) < b.size := by omega
        have f2 : (b.size : Int) < a.size := by omega
        go_wp2
        go_ret
        exact ⟨ret_i (by unfold cmpB; rw [hend.out, if_neg (by omega), if_pos (by omega)]), hd⟩
    · have hend : Hid (Lib.compareBytes a.data.toList b.data.toList = if a.size < b.size then -1 else if b.size < a.size then 1 else 0) := by
        show _ = _
        rw [cb_end _ _ (fun j hj _ => hno j (by rw [data_len] at hj; omega)), data_len, data_len]
      have u1 : ¬ (k : Int) < a.size := by omega
      by_cases c1 : a.size < b.size
      · have f1 : (a.size : Int) < b.size := by omega
        go_wp2
        go_ret
        exact ⟨ret_i (by unfold cmpB; rw [hend.out, if_pos c1]), hd⟩
      · have f1 : ¬ (a.size : Int) < b.size := by omega
        have f2 : ¬ (b.size : Int) < a.size := by omega
        go_wp2
        go_ret
        exact ⟨ret_i (by unfold cmpB; rw [hend.out, if_neg c1, if_neg (by omega)]), hd⟩

theorem order_any {u1 u2 : Value} {a b : En} {w : World} (h1 : Rd tInt w u1 a.1) (h2 : Rd tInt w u2 b.1) (ha : a.2.1.size ≤ 9223372036854775807) (hb : b.2.1.size ≤ 9223372036854775807) :
    Calls Tryd.prog 57 #[.agg #[u1, .string a.2.1, .int .i64 a.2.2], .agg #[u2, .string b.2.1, .int .i64 b.2.2]] w fun e w' => e = .returned (.int .i64 (ordK (kyE a) (kyE b))) ∧ Bw w w' := by
  obtain ⟨A, n, c, rfl, _, _, _⟩ := h1.form'
  obtain ⟨A', n', c', rfl, _, _, _⟩ := h2.form'
  have hb0 : Bw w ((w.alloc (.cells #[.slice A n c, .string a.2.1, .int .i64 a.2.2] 37)).alloc (.cells #[.slice A' n' c', .string b.2.1, .int .i64 b.2.2] 37)) := bw_al (bw_al (Below.refl _ _) _) _
  have HC := Lib.hid (rcompare_any (h1.after hb0) (h2.after hb0))
  have HB := Lib.hid (fun w => bcompare_any (w := w) a.2.1 b.2.1 ha hb)
  have e : Hid (ordK (kyE a) (kyE b) = if cmpL a.1 b.1 = 0 then cmpB a.2.1 b.2.1 else cmpL a.1 b.1) := rfl
  rw [e.out]
  have hr := cmpL_rngB a.1 b.1
  generalize cmpL a.1 b.1 = z at *
  generalize cmpB a.2.1 b.2.1 = y at *
  clear h1 h2 ha hb e
  by_cases hz : z = 0
  · subst hz
    rw [if_pos rfl]
    go_enter Tryd.func57, Tryd.ntmps57
    go_wp2_with (first | (go_at_call 83; (with_reducible refine HC.out.mono ?_); rintro e w' ⟨rfl, n, rfl⟩) | (go_at_call 39; (with_reducible refine (HB.out _).mono ?_); rintro e w' ⟨rfl, n, rfl⟩))
    go_ret
    exact ⟨rfl, hb0.then (Dr.n _ _).bw⟩
  · rw [if_neg hz]
    have hz' : (z != 0) = true := by simpa using hz
    go_enter Tryd.func57, Tryd.ntmps57
    go_wp2_with (go_at_call 83; (with_reducible refine HC.out.mono ?_); rintro e w' ⟨rfl, n, rfl⟩)
    go_ret
    exact ⟨rfl, hb0.then (Dr.n _ _).bw⟩

theorem likelier_any {u1 u2 : Value} {a b : En} {w : World} (h1 : Rd tInt w u1 a.1) (h2 : Rd tInt w u2 b.1) (ha : a.2.1.size ≤ 9223372036854775807) (hb : b.2.1.size ≤ 9223372036854775807) :
    Calls Tryd.prog 42 #[.agg #[u1, .string a.2.1, .int .i64 a.2.2], .agg #[u2, .string b.2.1, .int .i64 b.2.2]] w fun e w' => e = .returned (.bool (lkB a b)) ∧ Bw w w' := by
  obtain ⟨A, n, c, rfl, _, _, _⟩ := h1.form'
  obtain ⟨A', n', c', rfl, _, _, _⟩ := h2.form'
  have hb0 : Bw w ((w.alloc (.cells #[.slice A n c, .string a.2.1, .int .i64 a.2.2] 37)).alloc (.cells #[.slice A' n' c', .string b.2.1, .int .i64 b.2.2] 37)) := bw_al (bw_al (Below.refl _ _) _) _
  have HB := Lib.hid (fun w => bcompare_any (w := w) a.2.1 b.2.1 ha hb)
  have e : Hid (lkB a b = (decide (b.2.2 < a.2.2) || (decide (a.2.2 = b.2.2) && decide (cmpB a.2.1 b.2.1 < 0)))) := rfl
  rw [e.out]
  generalize cmpB a.2.1 b.2.1 = y at *
  clear h1 h2 ha hb e
  obtain ⟨a1, a2, a3⟩ := a
  obtain ⟨b1, b2, b3⟩ := b
  simp only at *
  by_cases hz : a3 = b3
  · subst hz
    have e0 : Hid ((decide (a3 < a3) || (decide (a3 = a3) && decide (y < 0))) = decide (y < 0)) := by
      show _ = _
      rw [decide_eq_false (Int.lt_irrefl a3), decide_eq_true rfl]; rfl
    rw [e0.out]
    go_enter Tryd.func42, Tryd.ntmps42
    go_wp2_with (go_at_call 39; (with_reducible refine (HB.out _).mono ?_); rintro e w' ⟨rfl, n, rfl⟩)
    go_ret
    exact ⟨rfl, hb0.then (Dr.n _ _).bw⟩
  · have hz' : (a3 != b3) = true := by simpa using hz
    have e0 : Hid ((decide (b3 < a3) || (decide (a3 = b3) && decide (y < 0))) = decide (b3 < a3)) := by
      show _ = _
      rw [decide_eq_false hz, Bool.false_and, Bool.or_false]
    rw [e0.out]
    go_enter Tryd.func42, Tryd.ntmps42
    go_wp2
    go_ret
    exact ⟨rfl, hb0⟩
end Go.Proofs.YtonadloonidmjaaDoor

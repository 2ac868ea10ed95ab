/- The contracts of both 'Find' and both 'Name'. Conditions: what the slice reads as; the library's tables; the bounds of a string and an int. -/
import Derived.Test.YtfdmpbihepkjnaaDoorS5
namespace Go.Proofs.YtfdmpbihepkjnaaDoor
open Go.RowKit Go.Maps
open Pl

/-- What Find finds. -/
def fnd (t : List ByteArray) (x : ByteArray) : Option Nat := if vT t then posN x t else none
def fS : Option Nat → Int
  | some k => (k : Int) + 1
  | none => 0
def fB : Option Nat → Bool
  | some _ => true
  | none => false
/-- What both 'Find' hand back. -/
def FnR (w : World) (o : Option Nat) (e : Ending) (w' : World) : Prop := e = .returned (.tuple #[.int .i64 (fS o), .bool (fB o)]) ∧ Bw w w'

theorem vT_parts {t : List ByteArray} (h : vT t = true) : t.length ≤ 500 ∧ t.all nameB = true ∧ t.Nodup := by
  unfold vT validB at h
  simp only [Bool.and_eq_true, decide_eq_true_eq] at h
  exact ⟨h.1.1, h.1.2, h.2⟩

/-- The look-up in the map of a table. -/
theorem look_tab {t : List ByteArray} (hn : t.Nodup) {w : World} {b : Nat} (hM : Mp Tryd.prog 9 w b (numE (nums t))) {x : ByteArray} (hx : x.size ≤ maxLen) (c : Bool) :
    (Instr.lookup 46 (.map (some b)) (.string x) c).run Tryd.prog w = .ok (if c then .tuple #[.int .i64 (fS (posN x t)), .bool (fB (posN x t))] else .int .i64 (fS (posN x t))) w := by
  rw [nums_nodup hn] at hM
  cases hp : posN x t with
  | none =>
    rw [hM.look_none keyed9 Tryd.underlying46 (keyStr hx) (zero3 w) (numE_none (by rw [idx_fst]; exact hp)) c]
    rfl
  | some k =>
    have hm : ((.string x, .int .i64 ((k : Int) + 1)) : Value × Value) ∈ numE (idx t) := List.mem_map.2 ⟨_, idx_mem hp, rfl⟩
    rw [hM.look_some keyed9 Tryd.underlying46 (keyStr hx) hm c]
    rfl

theorem find_any {v : Value} {t : List ByteArray} {x : ByteArray} {w : World} (hT : Tb w) (h : Rd tStr w v t) (hx : x.size ≤ maxLen) :
    Calls Tryd.prog 13 #[v, .string x] w (FnR w (fnd t x)) := by
  have HV := Lib.hid (valid_any hT h)
  have HN := Lib.hid (fun (w' : World) (hb : Bw w w') => numbers_any (h.after hb))
  obtain ⟨A, c, rfl, _, _⟩ := h.form
  unfold FnR fnd
  cases q : vT t
  · rw [q] at HV
    rw [if_neg (by simp)]
    clear q
    go_enter Tryd.func13, Tryd.ntmps13
    go_wp2_with (go_at_call 17; (with_reducible refine HV.out.mono ?_); rintro e w1 ⟨rfl, hb1⟩)
    go_ret2
    exact ⟨rfl, hb1⟩
  · rw [q] at HV
    rw [if_pos rfl]
    have Hn := Lib.hid (vT_parts q).2.2
    have Hx := Lib.hid hx
    clear q
    go_enter Tryd.func13, Tryd.ntmps13
    go_wp2_with (first
      | (go_at_call 17; (with_reducible refine HV.out.mono ?_); rintro e w1 ⟨rfl, hb1⟩)
      | (go_at_call 31; (with_reducible refine (HN.out _ hb1).mono ?_); rintro e w2 ⟨rfl, hb2, hM⟩; have hL := look_tab Hn.out hM Hx.out true))
    go_ret2
    exact ⟨rfl, hb1.then hb2⟩

theorem rfind_any {v : Value} {t : List ByteArray} {x : ByteArray} {w : World} (h : Rd tStr w v t) :
    Calls Tryd.prog 14 #[v, .string x] w (FnR w (fnd t x)) := by
  have HV := Lib.hid (rvalid_any h)
  have HP := Lib.hid (position_any (x := x) h)
  have hm := h.len_le
  obtain ⟨A, c, rfl, _, _⟩ := h.form
  unfold FnR fnd
  cases q : vT t
  · rw [q] at HV
    rw [if_neg (by simp)]
    clear q
    generalize posI t x = z at *
    go_enter Tryd.func14, Tryd.ntmps14
    go_wp2_with (first
      | (go_at_call 32; (with_reducible refine HP.out.mono ?_); rintro e w1 ⟨rfl, rfl⟩)
      | (go_at_call 18; (with_reducible refine HV.out.mono ?_); rintro e w2 ⟨rfl, hb1⟩))
    go_ret2
    exact ⟨rfl, hb1⟩
  · rw [q] at HV
    rw [if_pos rfl]
    clear q
    unfold posI at HP
    cases hp : posN x t with
    | none =>
      rw [hp] at HP
      clear hp
      go_enter Tryd.func14, Tryd.ntmps14
      go_wp2_with (first
        | (go_at_call 32; (with_reducible refine HP.out.mono ?_); rintro e w1 ⟨rfl, rfl⟩)
        | (go_at_call 18; (with_reducible refine HV.out.mono ?_); rintro e w2 ⟨rfl, hb1⟩))
      go_ret2
      exact ⟨rfl, hb1⟩
    | some k =>
      have hk : k < t.length := (List.getElem?_eq_some_iff.1 (posN_spec hp).1).1
      rw [hp] at HP
      simp only at HP
      clear hp
      go_enter Tryd.func14, Tryd.ntmps14
      go_wp2_with (first
        | (go_at_call 32; (with_reducible refine HP.out.mono ?_); rintro e w1 ⟨rfl, rfl⟩)
        | (go_at_call 18; (with_reducible refine HV.out.mono ?_); rintro e w2 ⟨rfl, hb1⟩))
      go_ret2
      exact ⟨rfl, hb1⟩

/-- What Name finds. -/
def nam (t : List ByteArray) (s : Int) : Option ByteArray := if vT t ∧ 1 ≤ s ∧ s ≤ t.length then t[(s - 1).toNat]? else none
def nS : Option ByteArray → ByteArray
  | some x => x
  | none => ⟨#[]⟩
def nB : Option ByteArray → Bool
  | some _ => true
  | none => false
def NmR (w : World) (o : Option ByteArray) (e : Ending) (w' : World) : Prop := e = .returned (.tuple #[.string (nS o), .bool (nB o)]) ∧ Bw w w'

set_option maxRecDepth 100000 in
theorem name_any {v : Value} {t : List ByteArray} {s : Int} {w : World} (hT : Tb w) (h : Rd tStr w v t) :
    Calls Tryd.prog 15 #[v, .int .i64 s] w (NmR w (nam t s)) := by
  have HV := Lib.hid (valid_any hT h)
  have h' := Lib.hid h
  have hm := h.len_le
  obtain ⟨A, c, rfl, _, _⟩ := h.form
  unfold NmR nam
  cases q : vT t
  · rw [q] at HV
    rw [if_neg (by simp)]
    clear q h
    go_enter Tryd.func15, Tryd.ntmps15
    go_wp2_with (go_at_call 17; (with_reducible refine HV.out.mono ?_); rintro e w1 ⟨rfl, hb1⟩)
    go_ret2
    exact ⟨rfl, hb1⟩
  · rw [q] at HV
    clear q h
    by_cases h1 : 1 ≤ s
    · by_cases h2 : s ≤ t.length
      · rw [if_pos ⟨rfl, h1, h2⟩]
        obtain ⟨k, rfl⟩ : ∃ k : Nat, s = (k : Int) + 1 := ⟨(s - 1).toNat, by omega⟩
        have hlt : k < t.length := by omega
        obtain ⟨b, off, y, rfl, hy, hy1, hc0⟩ := h'.out.str hlt
        have hbl := World.block_lt_of_cell? w _ hc0
        rw [show ((k : Int) + 1 - 1).toNat = k by omega, hy.out]
        go_enter Tryd.func15, Tryd.ntmps15
        go_wp2_with (go_at_call 17; (with_reducible refine HV.out.mono ?_); rintro e w1 ⟨rfl, hb1⟩; have hc2 := (World.cell?_of_block (w := w) (hb1.block _ hbl)).trans hc0)
        go_ret2
        exact ⟨rfl, hb1⟩
      · rw [if_neg (by omega)]
        go_enter Tryd.func15, Tryd.ntmps15
        go_wp2_with (go_at_call 17; (with_reducible refine HV.out.mono ?_); rintro e w1 ⟨rfl, hb1⟩)
        go_ret2
        exact ⟨rfl, hb1⟩
    · rw [if_neg (by omega)]
      go_enter Tryd.func15, Tryd.ntmps15
      go_wp2_with (go_at_call 17; (with_reducible refine HV.out.mono ?_); rintro e w1 ⟨rfl, hb1⟩)
      go_ret2
      exact ⟨rfl, hb1⟩

set_option maxRecDepth 100000 in
theorem rname_any {v : Value} {t : List ByteArray} {s : Int} {w : World} (h : Rd tStr w v t) :
    Calls Tryd.prog 16 #[v, .int .i64 s] w (NmR w (nam t s)) := by
  have HV := Lib.hid (rvalid_any h)
  have h' := Lib.hid h
  have hm := h.len_le
  obtain ⟨A, c, rfl, _, _⟩ := h.form
  unfold NmR nam
  cases q : vT t
  · rw [q] at HV
    rw [if_neg (by simp)]
    clear q h
    go_enter Tryd.func16, Tryd.ntmps16
    go_wp2_with (go_at_call 18; (with_reducible refine HV.out.mono ?_); rintro e w1 ⟨rfl, hb1⟩)
    go_ret2
    exact ⟨rfl, hb1⟩
  · rw [q] at HV
    clear q h
    by_cases h1 : 1 ≤ s
    · by_cases h2 : s ≤ t.length
      · rw [if_pos ⟨rfl, h1, h2⟩]
        obtain ⟨k, rfl⟩ : ∃ k : Nat, s = (k : Int) + 1 := ⟨(s - 1).toNat, by omega⟩
        have hlt : k < t.length := by omega
        obtain ⟨b, off, y, rfl, hy, hy1, hc0⟩ := h'.out.str hlt
        have hbl := World.block_lt_of_cell? w _ hc0
        rw [show ((k : Int) + 1 - 1).toNat = k by omega, hy.out]
        go_enter Tryd.func16, Tryd.ntmps16
        go_wp2_with (go_at_call 18; (with_reducible refine HV.out.mono ?_); rintro e w1 ⟨rfl, hb1⟩; have hc2 := (World.cell?_of_block (w := w) (hb1.block _ hbl)).trans hc0)
        go_ret2
        exact ⟨rfl, hb1⟩
      · rw [if_neg (by omega)]
        go_enter Tryd.func16, Tryd.ntmps16
        go_wp2_with (go_at_call 18; (with_reducible refine HV.out.mono ?_); rintro e w1 ⟨rfl, hb1⟩)
        go_ret2
        exact ⟨rfl, hb1⟩
    · rw [if_neg (by omega)]
      go_enter Tryd.func16, Tryd.ntmps16
      go_wp2_with (go_at_call 18; (with_reducible refine HV.out.mono ?_); rintro e w1 ⟨rfl, hb1⟩)
      go_ret2
      exact ⟨rfl, hb1⟩
end Go.Proofs.YtfdmpbihepkjnaaDoor

/- The contract of the program's 'read': classes of sounds, if they are valid, as three maps. -/
import Derived.Test.YtockfkmemoggiaaS4
namespace Go.Proofs.Ytockfkmemoggiaa
open Go.RowKit Go.Maps
open Pl

/-- The world behind the makes of 'read'. -/
abbrev W6 (w : World) (a b c : Value) : World :=
  ((((((w.alloc (.cells #[a, b, c] 25)).alloc (.cells #[.map none, .map none, .map none] 47)).alloc (.map #[] 0)).alloc (.map #[] 0)).alloc (.map #[] 0)).alloc
    (.cells #[.map (some (w.heap.size + 1 + 1)), .map (some (w.heap.size + 1 + 1 + 1)), .map (some (w.heap.size + 1 + 1 + 1 + 1))] 47))

/-- The blocks of 'read': number N is the box, N + 1 the result, N + 2, N + 3, N + 4 the maps, N + 5 the variable x. -/
structure Lay (N : Nat) (w : World) (a b c : Value) : Prop where
  box : w.heap[N]? = some (.cells #[a, b, c] 25 (0, 0))
  res : w.heap[N + 1]? = some (.cells #[.map none, .map none, .map none] 47 (0, 0))
  var : w.heap[N + 1 + 1 + 1 + 1 + 1]? = some (.cells #[.map (some (N + 1 + 1)), .map (some (N + 1 + 1 + 1)), .map (some (N + 1 + 1 + 1 + 1))] 47 (0, 0))

theorem W6_bw (w : World) (a b c : Value) : Bw w (W6 w a b c) :=
  ((((((Below.refl _ _).alloc (Nat.le_refl _) _).alloc (by simp) _).alloc (by simp; omega) _).alloc (by simp; omega) _).alloc (by simp; omega) _).alloc (by simp; omega) _
theorem W6_lay (w : World) (a b c : Value) : Lay w.heap.size (W6 w a b c) a b c :=
  ⟨at_old (at_old (at_old (at_old (at_old (at_new rfl))))), at_old (at_old (at_old (at_old (at_new (by simp))))), at_new (by simp)⟩
theorem W6_m1 (w : World) (a b c : Value) : (W6 w a b c).heap[w.heap.size + 1 + 1]? = some (.map #[] 0) := at_old (at_old (at_old (at_new (by simp))))
theorem W6_m2 (w : World) (a b c : Value) : (W6 w a b c).heap[w.heap.size + 1 + 1 + 1]? = some (.map #[] 0) := at_old (at_old (at_new (by simp)))
theorem W6_m3 (w : World) (a b c : Value) : (W6 w a b c).heap[w.heap.size + 1 + 1 + 1 + 1]? = some (.map #[] 0) := at_old (at_new (by simp))
theorem Mp.of_empty {P : Program} {k : TypeId} {w : World} {g : Nat} (h : w.heap[g]? = some (.map #[] 0)) : Mp P k w g [] :=
  ⟨h, fun _ h => by simp at h, fun _ _ _ _ h => by simp at h⟩
theorem W6_size (w : World) (a b c : Value) : (W6 w a b c).heap.size = w.heap.size + 1 + 1 + 1 + 1 + 1 + 1 := by simp [W6]

section
variable {N : Nat} {w w' : World} {a b c : Value}
theorem Lay.lt (h : Lay N w a b c) : N + 5 < w.heap.size := by
  have := (Array.getElem?_eq_some_iff.1 h.var).1; omega
theorem Lay.after (h : Lay N w a b c) (hb : Bw w w') : Lay N w' a b c := by
  have := h.lt
  exact ⟨(hb.block _ (by omega)).trans h.box, (hb.block _ (by omega)).trans h.res, (hb.block _ (by omega)).trans h.var⟩
theorem Lay.grown (h : Lay N w a b c) {g : Nat} (hg : w.grownBy w' (some g)) (hne : g = N + 1 + 1 ∨ g = N + 1 + 1 + 1 ∨ g = N + 1 + 1 + 1 + 1) : Lay N w' a b c := by
  have := h.lt
  have q : ∀ i, i < w.heap.size → i ≠ g → w'.heap[i]? = w.heap[i]? := fun i hi hn => hg.block i hi (fun e => hn (by injection e))
  exact ⟨(q _ (by omega) (by omega)).trans h.box, (q _ (by omega) (by omega)).trans h.res, (q _ (by omega) (by omega)).trans h.var⟩
theorem Lay.b0 (h : Lay N w a b c) : w.cell? ⟨N, 0, none⟩ = some a := (cell_of_row w _ 0 _ 25 (0, 0) h.box)
theorem Lay.b1 (h : Lay N w a b c) : w.cell? ⟨N, 1, none⟩ = some b := (cell_of_row w _ 1 _ 25 (0, 0) h.box)
theorem Lay.b2 (h : Lay N w a b c) : w.cell? ⟨N, 2, none⟩ = some c := (cell_of_row w _ 2 _ 25 (0, 0) h.box)
theorem Lay.v0 (h : Lay N w a b c) : w.cell? ⟨N + 1 + 1 + 1 + 1 + 1, 0, none⟩ = some (.map (some (N + 1 + 1))) := (cell_of_row w _ 0 _ 47 (0, 0) h.var)
theorem Lay.v1 (h : Lay N w a b c) : w.cell? ⟨N + 1 + 1 + 1 + 1 + 1, 1, none⟩ = some (.map (some (N + 1 + 1 + 1))) := (cell_of_row w _ 1 _ 47 (0, 0) h.var)
theorem Lay.v2 (h : Lay N w a b c) : w.cell? ⟨N + 1 + 1 + 1 + 1 + 1, 2, none⟩ = some (.map (some (N + 1 + 1 + 1 + 1))) := (cell_of_row w _ 2 _ 47 (0, 0) h.var)
theorem Lay.r0 (h : Lay N w a b c) : w.cell? ⟨N + 1, 0, none⟩ = some (.map none) := (cell_of_row w _ 0 _ 47 (0, 0) h.res)
theorem Lay.r1 (h : Lay N w a b c) : w.cell? ⟨N + 1, 1, none⟩ = some (.map none) := (cell_of_row w _ 1 _ 47 (0, 0) h.res)
theorem Lay.r2 (h : Lay N w a b c) : w.cell? ⟨N + 1, 2, none⟩ = some (.map none) := (cell_of_row w _ 2 _ 47 (0, 0) h.res)
theorem Lay.rf (h : Lay N w a b c) (i : Nat) : w.frozen? ⟨N + 1, i, none⟩ = false := frozen_of_cells h.res
end

/-- What 'read' hands back. -/
def ReadR (w : World) (s : Snd) (e : Ending) (w' : World) : Prop :=
  Bw w w' ∧ ∃ m1 m2 m3 : Option Nat, e = .returned (.tuple #[.agg #[.map m1, .map m2, .map m3], .bool (validB s)]) ∧ (validB s = true → SetV w' (.map m1) s.vow ∧ SetV w' (.map m2) s.con ∧ OnsV w' (.map m3) s.ons)

theorem cls_split (s : Snd) : validB s = (decide (s.vow.length ≤ 40) && decide (s.con.length ≤ 40) && decide (s.ons.length ≤ 40) && allR s.vow.length (goodC s.vow []) && allR s.con.length (goodC s.con s.vow) && allR s.ons.length (goodO s)) := by
  unfold validB clsB
  cases decide (s.vow.length ≤ 40) <;> cases decide (s.con.length ≤ 40) <;> cases decide (s.ons.length ≤ 40) <;> simp

/-- The way out with false: the result's block is zero. -/
theorem read_out {w W : World} {s : Snd} (hv : Hid (validB s = false)) (hW : Bw w W) {e : Ending} (he : e = .returned (.tuple #[.agg #[.map none, .map none, .map none], .bool false])) : ReadR w s e W :=
  ⟨hW, none, none, none, by rw [he, hv.out], fun h => by rw [hv.out] at h; cases h⟩

set_option maxRecDepth 100000 in
theorem read_big {a b c : Value} {s : Snd} {w : World} (h : SndR w a b c s) (hbig : 40 < s.vow.length ∨ 40 < s.con.length ∨ 40 < s.ons.length) :
    Calls Try.prog 22 #[.agg #[a, b, c]] w (ReadR w s) := by
  have hv : validB s = false := by
    rw [cls_split]
    rcases hbig with h | h | h
    · rw [decide_eq_false (by omega : ¬ s.vow.length ≤ 40)]; simp
    · rw [decide_eq_false (by omega : ¬ s.con.length ≤ 40)]; simp
    · rw [decide_eq_false (by omega : ¬ s.ons.length ≤ 40)]; simp
  have Hv := Lib.hid hv
  clear hv
  have m1 := h.vow.len_le
  have m2 := h.con.len_le
  have m3 := h.ons.len_le
  obtain ⟨A, ca, rfl, _, _⟩ := h.vow.form
  obtain ⟨B, cb, rfl, _, _⟩ := h.con.form
  obtain ⟨C, cc, rfl, _, _⟩ := h.ons.form
  have hmm := @run_makeMap Try.prog
  clear h
  by_cases c1 : 40 < s.vow.length
  · go_enter Try.func22, Try.ntmps22
    go_wp2_with fail
    exact bodyPost_ret (v := .tuple #[.agg #[.map none, .map none, .map none], .bool false]) (by simp [results, Try.results22, go_sem]) rfl (read_out Hv (W6_bw _ _ _ _) rfl)
  by_cases c2 : 40 < s.con.length
  · go_enter Try.func22, Try.ntmps22
    go_wp2_with fail
    exact bodyPost_ret (v := .tuple #[.agg #[.map none, .map none, .map none], .bool false]) (by simp [results, Try.results22, go_sem]) rfl (read_out Hv (W6_bw _ _ _ _) rfl)
  by_cases c3 : 40 < s.ons.length
  · go_enter Try.func22, Try.ntmps22
    go_wp2_with fail
    exact bodyPost_ret (v := .tuple #[.agg #[.map none, .map none, .map none], .bool false]) (by simp [results, Try.results22, go_sem]) rfl (read_out Hv (W6_bw _ _ _ _) rfl)
  · omega

/-- 'set' at the first call: the vowels. -/
theorem set_vow {a b c : Value} {s : Snd} {w : World} (h : SndR w a b c s) :
    Calls Try.prog 35 #[a, .map (some (w.heap.size + 1 + 1)), .map none] (W6 w a b c) fun e w' => e = .returned (.bool (allR s.vow.length (goodC s.vow []))) ∧
      (W6 w a b c).grownBy w' (some (w.heap.size + 1 + 1)) ∧ (allR s.vow.length (goodC s.vow []) = true → Mp Try.prog 3 w' (w.heap.size + 1 + 1) (setE s.vow)) :=
  set_any ((h.vow.below (W6_bw w a b c) fun _ hb => hb).weaken fun b hb => by omega) (Mp.of_empty (W6_m1 w a b c)) (.inl ⟨rfl, rfl⟩) (by simp)

theorem grown_bw {w W W' : World} (h : Bw w W) {g : Nat} (hg : W.grownBy W' (some g)) (hge : w.heap.size ≤ g) : Bw w W' :=
  ⟨hg.os.trans h.os, hg.tape.trans h.tape, hg.output.trans h.output, Nat.le_trans h.size hg.size, fun k hk => (hg.block k (Nat.lt_of_lt_of_le hk h.size) (fun e => by injection e with e; omega)).trans (h.block k hk)⟩

set_option maxRecDepth 100000 in
theorem read_vow {a b c : Value} {s : Snd} {w : World} (h : SndR w a b c s) (c1 : s.vow.length ≤ 40) (c2 : s.con.length ≤ 40) (c3 : s.ons.length ≤ 40)
    (hb : allR s.vow.length (goodC s.vow []) = false) : Calls Try.prog 22 #[.agg #[a, b, c]] w (ReadR w s) := by
  have Hv : Hid (validB s = false) := by show validB s = false; rw [cls_split, hb]; simp
  have HS := Lib.hid (set_vow h)
  have Hb := Lib.hid hb
  clear hb
  have m1 := h.vow.len_le
  have m2 := h.con.len_le
  have m3 := h.ons.len_le
  obtain ⟨A, ca, rfl, _, _⟩ := h.vow.form
  obtain ⟨B, cb, rfl, _, _⟩ := h.con.form
  obtain ⟨C, cc, rfl, _, _⟩ := h.ons.form
  have hmm := @run_makeMap Try.prog
  clear h
  go_enter Try.func22, Try.ntmps22
  go_wp2_with (go_at_call 35; (with_reducible refine (val_of (congrArg Value.bool Hb.out) HS.out).mono ?_); rintro e w1 ⟨rfl, hg1, _⟩; have hL := (W6_lay w _ _ _).grown hg1 (.inl rfl); have r0 := hL.r0; have r1 := hL.r1; have r2 := hL.r2; have rf := hL.rf)
  have hB := grown_bw (W6_bw w _ _ _) hg1 (by omega)
  refine bodyPost_ret (v := .tuple #[.agg #[.map none, .map none, .map none], .bool false]) (by simp [results, Try.results22, go_sem, r0, r1, r2]) rfl (read_out Hv ?_ rfl)
  exact ((hB.setCell (by simp) _).setCell (by simp) _).setCell (by simp) _
end Go.Proofs.Ytockfkmemoggiaa

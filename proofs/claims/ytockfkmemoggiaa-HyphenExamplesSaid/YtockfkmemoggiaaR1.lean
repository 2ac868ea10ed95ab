/- The contracts of the reference's small readers. -/
import Derived.Test.YtockfkmemoggiaaProg
import Derived.Test.YtockfkmemoggiaaPlain
import Derived.Test.YtockfkmemoggiaaLib
import Derived.Outline
import Derived.Lib.Hide
import Derived.Deep.QuietTactic
import Derived.BigQuiet
namespace Go.Proofs.Ytockfkmemoggiaa
open Go.RowKit
open Pl

theorem has_any {v : Value} {xs : List Int} {s : Int} {w : World} (h : Rd tInt w v xs) :
    Calls Try.prog 32 #[v, .int .i64 s] w fun e w' => e = .returned (.bool (hasB xs s)) ∧ Dr w w' := by
  have hm := h.len_le
  obtain ⟨A, c, rfl, _, _⟩ := h.form
  go_enter Try.func32, Try.ntmps32
  go_wp2
  go_loop [5] (fun i => ∃ k : Nat, k ≤ xs.length ∧ i = .int .i64 k ∧ Pre k (fun j => xs[j]? ≠ some s)) (fun i => xs.length - (intOf i).toNat)
  case atStart => exact ⟨0, Nat.zero_le _, rfl, Pre.zero⟩
  case round =>
    obtain ⟨k, hk, rfl, hno⟩ := hrel
    by_cases hlt : k < xs.length
    · obtain ⟨b, off, x, rfl, hx, _, _, hc⟩ := h.int hlt
      clear h
      go_wp2
      · go_ret
        have : x = s := by have h : (x == s) = true := by assumption
                           simpa using h
        subst this
        exact ⟨ret_b (by unfold hasB; rw [eq_comm, decide_eq_true_iff]; exact List.mem_of_getElem? hx.out), Dr.refl _⟩
      · refine ⟨⟨k + 1, hlt, by go_num, hno.snoc ?_⟩, by simp [intOf]; omega⟩
        rw [hx.out]
        have h : (x == s) = false := by assumption
        simpa using h
    · go_wp2
      go_ret
      refine ⟨ret_b ?_, Dr.refl _⟩
      unfold hasB
      rw [eq_comm, decide_eq_false_iff_not]
      intro hm
      obtain ⟨j, hj, he⟩ := List.getElem_of_mem hm
      exact hno j (by omega) (by rw [List.getElem?_eq_getElem hj, he])

theorem sameInts_any {v u : Value} {xs ys : List Int} {w : World} (h : Rd tInt w v xs) (h' : Rd tInt w u ys) :
    Calls Try.prog 16 #[v, u] w fun e w' => e = .returned (.bool (sameB xs ys)) ∧ Dr w w' := by
  have hm := h.len_le
  have hm' := h'.len_le
  obtain ⟨A, c, rfl, _, _⟩ := h.form
  obtain ⟨A', c', rfl, _, _⟩ := h'.form
  by_cases hl : xs.length = ys.length
  · have hle : xs.length ≤ ys.length := by omega
    have hge : ys.length ≤ xs.length := by omega
    have Hl := Lib.hid hl
    have hne : ((xs.length : Int) != (ys.length : Int)) = false := by rw [hl]; simp
    clear hl
    go_enter Try.func16, Try.ntmps16
    go_wp2
    go_loopw [5] (fun i wr => ∃ k : Nat, k ≤ xs.length ∧ i = .int .i64 k ∧ Dr w wr ∧ Pre k (fun j => xs[j]? = ys[j]?)) (fun i _ => xs.length - (intOf i).toNat)
    case atStart => exact ⟨0, Nat.zero_le _, rfl, Dr.refl _, Pre.zero⟩
    case round =>
      obtain ⟨k, hk, rfl, hd, hno⟩ := hrel
      by_cases hlt : k < xs.length
      · obtain ⟨b, off, x, rfl, hx, _, _, hc⟩ := (h.drd hd).int hlt
        obtain ⟨b', off', y, rfl, hy, _, _, hc'⟩ := (h'.drd hd).int (k := k) (by omega)
        clear h h'
        have hlt' : k < ys.length := by omega
        go_wp2
        go_quiet (fail)
        go_wp2
        · go_ret
          have h : (x != y) = true := by assumption
          refine ⟨ret_b ?_, hd.drewN _⟩
          unfold sameB
          rw [eq_comm, decide_eq_false_iff_not]
          rintro rfl
          have e := hx.out.symm.trans hy.out
          simp at e; subst e; simp at h
        · have h : (x != y) = false := by assumption
          refine ⟨⟨k + 1, hlt, by go_num, hd.drewN _, hno.snoc ?_⟩, by simp [intOf]; omega⟩
          rw [hx.out, hy.out]
          simpa using h
      · go_wp2
        go_ret
        refine ⟨ret_b ?_, hd⟩
        unfold sameB
        rw [eq_comm, decide_eq_true_iff]
        apply List.ext_getElem?
        intro j
        by_cases hj : j < xs.length
        · exact hno j (by omega)
        · rw [List.getElem?_eq_none (by omega), List.getElem?_eq_none (by omega)]
  · have hne : ((xs.length : Int) != (ys.length : Int)) = true := by simpa using by omega
    have Hl := Lib.hid hl
    clear hl
    go_enter Try.func16, Try.ntmps16
    go_wp2
    go_ret
    exact ⟨ret_b (by unfold sameB; rw [eq_comm, decide_eq_false_iff_not]; intro e; exact Hl.out (by rw [e])), Dr.refl _⟩

theorem listed_any {v u : Value} {l : List (List Int)} {x : List Int} {w : World} (h : Rd (tSlice tInt) w v l) (h' : Rd tInt w u x) :
    Calls Try.prog 30 #[v, u] w fun e w' => e = .returned (.bool (listedB l x)) ∧ Dr w w' := by
  have hm := h.len_le
  obtain ⟨A, c, rfl, _, _⟩ := h.form
  go_enter Try.func30, Try.ntmps30
  go_wp2
  go_loopw [5] (fun i wr => ∃ k : Nat, k ≤ l.length ∧ i = .int .i64 k ∧ Dr w wr ∧ Pre k (fun j => l[j]? ≠ some x)) (fun i _ => l.length - (intOf i).toNat)
  case atStart => exact ⟨0, Nat.zero_le _, rfl, Dr.refl _, Pre.zero⟩
  case round =>
    obtain ⟨k, hk, rfl, hd, hno⟩ := hrel
    by_cases hlt : k < l.length
    · obtain ⟨b, off, y, yl, rfl, hy, hyr, hc⟩ := (h.drd hd).sl hlt
      have hx' := h'.drd hd
      clear h h'
      go_wp2_with (go_at_call 16; refine (sameInts_any hyr.rd hx').mono ?_; rintro e w' ⟨rfl, hd2⟩)
      · go_ret
        have hs : sameB yl x = true := by assumption
        have : yl = x := by simpa [sameB] using hs
        subst this
        exact ⟨ret_b (by unfold listedB; rw [eq_comm, decide_eq_true_iff]; exact List.mem_of_getElem? hy.out), hd.trans hd2⟩
      · have hs : sameB yl x = false := by assumption
        refine ⟨⟨k + 1, hlt, by go_num, hd.trans hd2, hno.snoc ?_⟩, by simp [intOf]; omega⟩
        rw [hy.out]
        simpa [sameB] using hs
    · go_wp2
      go_ret
      refine ⟨ret_b ?_, hd⟩
      unfold listedB
      rw [eq_comm, decide_eq_false_iff_not]
      intro hm
      obtain ⟨j, hj, he⟩ := List.getElem_of_mem hm
      exact hno j (by omega) (by rw [List.getElem?_eq_getElem hj, he])

theorem all_any {v a b : Value} {x la lb : List Int} {w : World} (h : Rd tInt w v x) (ha : Rd tInt w a la) (hb : Rd tInt w b lb) :
    Calls Try.prog 29 #[v, a, b] w fun e w' => e = .returned (.bool (allB x la lb)) ∧ Dr w w' := by
  have hm := h.len_le
  obtain ⟨A, c, rfl, _, _⟩ := h.form
  go_enter Try.func29, Try.ntmps29
  go_wp2
  go_loopw [7] (fun i wr => ∃ k : Nat, k ≤ x.length ∧ i = .int .i64 k ∧ Dr w wr ∧ Pre k (fun i => (hasB la (x.getD i 0) || hasB lb (x.getD i 0)) = true)) (fun i _ => x.length - (intOf i).toNat)
  case atStart => exact ⟨0, Nat.zero_le _, rfl, Dr.refl _, Pre.zero⟩
  case round =>
    obtain ⟨k, hk, rfl, hd, hno⟩ := hrel
    by_cases hlt : k < x.length
    · obtain ⟨b, off, y, rfl, hy, _, _, hc⟩ := (h.drd hd).int hlt
      have ha' := ha.drd hd
      have hb' := hb.drd hd
      have hy' := Lib.hid (getD_of (d := 0) hy.out)
      clear h ha hb
      cases p : hasB la y <;> cases q : hasB lb y <;> have Hp := Lib.hid p <;> have Hq := Lib.hid q <;> clear p q
      all_goals
        go_wp2_with (go_at_call 32; first | ((with_reducible refine (has_any (xs := la) ha').mono ?_); rintro e w' ⟨rfl, n, rfl⟩; have hb2 := hb'.dn n; rw [Hp.out]) | ((with_reducible refine (has_any (xs := lb) hb2).mono ?_); rintro e w' ⟨rfl, m, rfl⟩; rw [Hq.out]))
      · go_ret
        exact ⟨ret_b (allR_false hlt (by rw [hy'.out, Hp.out, Hq.out]; rfl)).symm, hd.drewN _⟩
      · exact ⟨⟨k + 1, hlt, by go_num, hd.drewN _, hno.snoc (by rw [hy'.out, Hp.out, Hq.out]; rfl)⟩, by simp [intOf]; omega⟩
      · exact ⟨⟨k + 1, hlt, by go_num, hd.drewN n, hno.snoc (by rw [hy'.out, Hp.out, Hq.out]; rfl)⟩, by simp [intOf]; omega⟩
      · exact ⟨⟨k + 1, hlt, by go_num, hd.drewN n, hno.snoc (by rw [hy'.out, Hp.out, Hq.out]; rfl)⟩, by simp [intOf]; omega⟩
    · go_wp2
      go_ret
      exact ⟨ret_b (allR_true fun j hj => hno j (by omega)).symm, hd⟩

theorem class_any {v u : Value} {l o : List Int} {w : World} (h : Rd tInt w v l) (h' : Rd tInt w u o) :
    Calls Try.prog 28 #[v, u] w fun e w' => e = .returned (.bool (clsB l o)) ∧ Dr w w' := by
  have hm := h.len_le
  obtain ⟨A, c, rfl, hlc, _⟩ := h.form
  by_cases h40 : l.length ≤ 40
  · have h40' : ¬ (40 : Int) < (l.length : Int) := by omega
    go_enter Try.func28, Try.ntmps28
    go_wp2
    go_loopw [5] (fun i wr => ∃ k : Nat, k ≤ l.length ∧ i = .int .i64 k ∧ Dr w wr ∧ Pre k (fun i => goodC l o i = true)) (fun i _ => l.length - (intOf i).toNat)
    case atStart => exact ⟨0, Nat.zero_le _, rfl, Dr.refl _, Pre.zero⟩
    case round =>
      obtain ⟨k, hk, rfl, hd, hno⟩ := hrel
      by_cases hlt : k < l.length
      · have hr := (h.drd hd)
        obtain ⟨b, off, y, rfl, hy, _, _, hc⟩ := hr.int hlt
        have ho := h'.drd hd
        have hy' := Lib.hid (getD_of (d := 0) hy.out)
        have hcut := hr.pre hk
        clear h h' hr
        have bad : goodC l o k = false → clsB l o = false := fun e2 => by
          unfold clsB; rw [allR_false hlt e2]; simp
        by_cases c1 : y < 1
        · have d1 : decide (y < 1) = true := decide_eq_true c1
          go_wp2
          go_quiet (fail)
          go_wp2
          go_ret
          exact ⟨ret_b (bad (by unfold goodC; rw [hy'.out]; simp; omega)).symm, hd.drewN _⟩
        have d1 : decide (y < 1) = false := decide_eq_false c1
        by_cases c2 : 500 < y
        · have d2 : decide (500 < y) = true := decide_eq_true c2
          go_wp2
          go_quiet (fail)
          go_wp2
          go_ret
          exact ⟨ret_b (bad (by unfold goodC; rw [hy'.out]; simp; omega)).symm, hd.drewN _⟩
        have d2 : decide (500 < y) = false := decide_eq_false c2
        cases p : hasB (l.take k) y
        · cases q : hasB o y
          · have Hp := Lib.hid p
            have Hq := Lib.hid q
            clear p q
            go_wp2
            go_quiet ((go_at_call 32; first | exact Dr.quiet' (congrArg Value.bool Hp.out) (has_any (hcut.dn _)) | exact Dr.quiet' (congrArg Value.bool Hq.out) (has_any (ho.dn _))))
            go_wp2
            exact ⟨⟨k + 1, hlt, by go_num, hd.drewN _, hno.snoc (by unfold goodC; rw [hy'.out, Hp.out, Hq.out]; simp; omega)⟩, by simp [intOf]; omega⟩
          · have Hp := Lib.hid p
            have Hq := Lib.hid q
            clear p q
            go_wp2
            go_quiet ((go_at_call 32; first | exact Dr.quiet' (congrArg Value.bool Hp.out) (has_any (hcut.dn _)) | exact Dr.quiet' (congrArg Value.bool Hq.out) (has_any (ho.dn _))))
            go_wp2
            go_ret
            exact ⟨ret_b (bad (by unfold goodC; rw [hy'.out, Hq.out]; simp)).symm, hd.drewN _⟩
        · have Hp := Lib.hid p
          clear p
          go_wp2
          go_quiet ((go_at_call 32; exact Dr.quiet' (congrArg Value.bool Hp.out) (has_any (hcut.dn _))))
          go_wp2
          go_ret
          exact ⟨ret_b (bad (by unfold goodC; rw [hy'.out, Hp.out]; simp)).symm, hd.drewN _⟩
      · go_wp2
        go_ret
        exact ⟨ret_b (by unfold clsB; rw [allR_true fun j hj => hno j (by omega)]; simpa using h40), hd⟩
  · have h40' : (40 : Int) < (l.length : Int) := by omega
    go_enter Try.func28, Try.ntmps28
    go_wp2
    go_ret
    exact ⟨ret_b (by unfold clsB; rw [decide_eq_false h40]; rfl), Dr.refl _⟩

/-- The three slices of sounds. -/
structure SndR (w : World) (a b c : Value) (s : Snd) : Prop where
  vow : Rd tInt w a s.vow
  con : Rd tInt w b s.con
  ons : Rd (tSlice tInt) w c s.ons
theorem SndR.after {w w' : World} {a b c : Value} {s : Snd} (h : SndR w a b c s) (hb : Bw w w') : SndR w' a b c s := ⟨h.vow.after hb, h.con.after hb, h.ons.after hb⟩
theorem SndR.dn {w : World} {a b c : Value} {s : Snd} (h : SndR w a b c s) (n : Nat) : SndR (w.drewN n) a b c s := h.after (Dr.n w n).bw
theorem SndR.alloc {w : World} {a b c : Value} {s : Snd} (h : SndR w a b c s) (o : Obj) : SndR (w.alloc o) a b c s := h.after ((Below.refl _ _).alloc (Nat.le_refl _) o)
end Go.Proofs.Ytockfkmemoggiaa

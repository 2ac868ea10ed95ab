/- The contracts of the reference's tests on sounds and words, and of the statements' own small readers. -/
import Derived.Test.YtockfkmemoggiaaR1
namespace Go.Proofs.Ytockfkmemoggiaa
open Go.RowKit
open Pl

theorem word_any {a b c v : Value} {s : Snd} {x : List Int} {w : World} (h : SndR w a b c s) (hx : Rd tInt w v x) :
    Calls Try.prog 25 #[.agg #[a, b, c], v] w fun e w' => e = .returned (.bool (wordB s x)) ∧ Bw w w' := by
  have hm := hx.len_le
  obtain ⟨A, cc, rfl, hlc, _⟩ := hx.form
  have h1 := h.vow.alloc (.cells #[a, b, c] 25)
  have h2 := h.con.alloc (.cells #[a, b, c] 25)
  have h3 := hx.alloc (.cells #[a, b, c] 25)
  by_cases hl : x.length ≤ 200
  · have hl' : (x.length : Int) ≤ 200 := by omega
    go_enter Try.func25, Try.ntmps25
    go_wp2_with (go_at_call 29; (with_reducible refine (all_any h3 h1 h2).mono ?_); rintro e w' ⟨rfl, n, rfl⟩)
    go_ret
    exact ⟨ret_b (by unfold wordB; rw [decide_eq_true hl]; rfl), Bw.drewN ((Below.refl _ _).alloc (Nat.le_refl _) _) _⟩
  · have hl' : ¬ (x.length : Int) ≤ 200 := by omega
    go_enter Try.func25, Try.ntmps25
    go_wp2_with fail
    go_ret
    exact ⟨ret_b (by unfold wordB; rw [decide_eq_false hl]; rfl), ((Below.refl _ _).alloc (Nat.le_refl _) _)⟩

theorem mark_any {a b c : Value} {s : Snd} {m : Int} {w : World} (h : SndR w a b c s) :
    Calls Try.prog 18 #[.agg #[a, b, c], .int .i64 m] w fun e w' => e = .returned (.bool (markB s m)) ∧ Bw w w' := by
  have h1 := h.vow.alloc (.cells #[a, b, c] 25)
  have h2 := h.con.alloc (.cells #[a, b, c] 25)
  have hB : Bw w (w.alloc (.cells #[a, b, c] 25)) := (Below.refl _ _).alloc (Nat.le_refl _) _
  by_cases c1 : 1 ≤ m
  · by_cases c2 : m ≤ 500
    · cases p : hasB s.vow m <;> have Hp := Lib.hid p <;> clear p
      · cases q : hasB s.con m <;> have Hq := Lib.hid q <;> clear q
        all_goals
          go_enter Try.func18, Try.ntmps18
          go_wp2_with (go_at_call 32; first | ((with_reducible refine (val_of (congrArg Value.bool Hp.out) (has_any h1)).mono ?_); rintro e w' ⟨rfl, n, rfl⟩) | ((with_reducible refine (val_of (congrArg Value.bool Hq.out) (has_any (h2.dn n))).mono ?_); rintro e w' ⟨rfl, n2, rfl⟩))
          go_ret
          exact ⟨ret_b (by unfold markB; rw [Hp.out, Hq.out, decide_eq_true c1, decide_eq_true c2]; rfl), hB.drewN _⟩
      · go_enter Try.func18, Try.ntmps18
        go_wp2_with (go_at_call 32; ((with_reducible refine (val_of (congrArg Value.bool Hp.out) (has_any h1)).mono ?_); rintro e w' ⟨rfl, n, rfl⟩))
        go_ret
        exact ⟨ret_b (by unfold markB; rw [Hp.out]; simp), hB.drewN _⟩
    · go_enter Try.func18, Try.ntmps18
      go_wp2_with fail
      go_ret
      exact ⟨ret_b (by unfold markB; rw [decide_eq_false (by omega : ¬ m ≤ 500)]; simp), hB⟩
  · go_enter Try.func18, Try.ntmps18
    go_wp2_with fail
    go_ret
    exact ⟨ret_b (by unfold markB; rw [decide_eq_false (by omega : ¬ 1 ≤ m)]; simp), hB⟩

/-- The sign of a comparison is of no weight here: it is 0 just at equal lists. -/
def cmpI (x y : List Int) : Int := if x = y then 0 else if x.length ≠ y.length then (if x.length < y.length then -1 else 1) else 0
theorem large_any {a b c : Value} {s : Snd} {w : World} (h : SndR w a b c s) :
    Calls Try.prog 7 #[.agg #[a, b, c]] w fun e w' => e = .returned (.bool (largeB s)) ∧ Bw w w' := by
  have m1 := h.vow.len_le
  have m2 := h.con.len_le
  have m3 := h.ons.len_le
  have h3 := h.ons.alloc (.cells #[a, b, c] 25)
  obtain ⟨A, ca, rfl, _, _⟩ := h.vow.form
  obtain ⟨B, cb, rfl, _, _⟩ := h.con.form
  obtain ⟨C, cc, rfl, _, _⟩ := h.ons.form
  clear h
  generalize hO : (.cells #[.slice A s.vow.length ca, .slice B s.con.length cb, .slice C s.ons.length cc] 25 : Obj) = O at h3
  have HO := Lib.hid hO
  have hB : Bw w (w.alloc O) := (Below.refl _ _).alloc (Nat.le_refl _) _
  subst hO
  by_cases c1 : 60 < s.vow.length
  · go_enter Try.func7, Try.ntmps7
    go_wp2_with fail
    go_ret
    exact ⟨ret_b (by unfold largeB; rw [decide_eq_true c1]; simp), hB⟩
  by_cases c2 : 60 < s.con.length
  · go_enter Try.func7, Try.ntmps7
    go_wp2_with fail
    go_ret
    exact ⟨ret_b (by unfold largeB; rw [decide_eq_true c2]; simp), hB⟩
  by_cases c3 : 60 < s.ons.length
  · go_enter Try.func7, Try.ntmps7
    go_wp2_with fail
    go_ret
    exact ⟨ret_b (by unfold largeB; rw [decide_eq_true c3]; simp), hB⟩
  go_enter Try.func7, Try.ntmps7
  go_wp2_with fail
  go_loop [3] (fun i => ∃ k : Nat, k ≤ s.ons.length ∧ i = .int .i64 k ∧ Pre k (fun i => decide (20 < (s.ons.getD i []).length) = false)) (fun i => s.ons.length - (intOf i).toNat)
  case atStart => exact ⟨0, Nat.zero_le _, rfl, Pre.zero⟩
  case round =>
    obtain ⟨k, hk, rfl, hno⟩ := hrel
    by_cases hlt : k < s.ons.length
    · obtain ⟨b, off, u, y, rfl, hy, hur, hc⟩ := h3.sl hlt
      have hy' := Lib.hid (getD_of (d := []) hy.out)
      have := hur.len_le
      obtain ⟨A', c', rfl, _, _⟩ := hur.form
      clear h3 hur
      go_wp2
      · go_ret
        have hh : 20 < y.length := by have h : (20 : Int) < (y.length : Int) := by assumption
                                      omega
        exact ⟨ret_b (by unfold largeB; rw [anyR_true hlt (by rw [hy'.out]; exact decide_eq_true hh)]; simp), hB⟩
      · have hh : ¬ 20 < y.length := by have h : (y.length : Int) ≤ 20 := by assumption
                                        omega
        exact ⟨⟨k + 1, hlt, by go_num, hno.snoc (by rw [hy'.out]; exact decide_eq_false hh)⟩, by simp [intOf]; omega⟩
    · go_wp2
      go_ret
      exact ⟨ret_b (by unfold largeB; rw [decide_eq_false c1, decide_eq_false c2, decide_eq_false c3, anyR_false fun j hj => hno j (by omega)]; rfl), hB⟩
end Go.Proofs.Ytockfkmemoggiaa

/- The contract of the program's 'begins'. -/
import Derived.Test.YtockfkmemoggiaaS4
import Derived.Deep.RegionHeld3
namespace Go.Proofs.Ytockfkmemoggiaa
open Go.RowKit Go.Maps
open Pl

theorem begins_any {a b c v : Value} {s : Snd} {l : List Int} {w : World} (h : OnsV w c s.ons) (hl : Rd tInt w v l) (hsym : ∀ y ∈ l, 1 ≤ y ∧ y ≤ 500) :
    Calls Try.prog 40 #[.agg #[a, b, c], v] w fun e w' => e = .returned (.bool (beginsB s l)) ∧ Bw w w' := by
  have hm := hl.len_le
  obtain ⟨A, cc, rfl, _, _⟩ := hl.form
  have h1 := h.alloc (.cells #[a, b, c] 47)
  have h3 := hl.alloc (.cells #[a, b, c] 47)
  have hB : Bw w (w.alloc (.cells #[a, b, c] 47)) := (Below.refl _ _).alloc (Nat.le_refl _) _
  by_cases c1 : l.length = 1
  · have d1 : ((l.length : Int) == 1) = true := by simpa using by omega
    have C1 := Lib.hid c1
    clear h h1 h3 c1 hl
    go_enter Try.func40, Try.ntmps40
    go_wp2_with fail
    go_quiet (fail)
    go_wp2_with fail
    go_ret
    exact ⟨ret_b (by unfold beginsB; rw [C1.out]; rfl), hB.drewN _⟩
  have d1 : ((l.length : Int) == 1) = false := by simpa using by omega
  by_cases c2 : 0 < l.length
  · by_cases c3 : l.length ≤ 4
    · obtain ⟨a0, a1, a2, a3, hon⟩ : ∃ a0 a1 a2 a3, onV l = .agg #[.int .i64 a0, .int .i64 a1, .int .i64 a2, .int .i64 a3] := ⟨_, _, _, _, rfl⟩
      have Hon := Lib.hid hon
      have d2 : decide ((0 : Int) < (l.length : Int)) = true := by simpa using c2
      have d3 : decide ((l.length : Int) ≤ 4) = true := by simp; omega
      clear hon h hl
      cases p : listedB s.ons l <;> have Hl := Lib.hid p <;> clear p
      all_goals
        go_enter Try.func40, Try.ntmps40
        go_wp2_with fail
        go_region_held3 (fun w' => w'.cell? ⟨w.heap.size, 2, none⟩ = some c)
          (first | assumption | (go_simp; done))
          (first | (go_at_call 38; refine (val_of Hon.out (key_any (h3.after (Bw.drew (Below.refl _ _))) c2 c3)).mono ?_; rintro e w2 ⟨rfl, hb⟩; have hc2 : w2.cell? ⟨w.heap.size, 2, none⟩ = some c := (hb.cell (p := ⟨w.heap.size, 2, none⟩) (by simp)).trans (by go_simp); have hlk := (h1.after (Bw.then (Bw.drew (Below.refl _ _)) hb)).look ⟨c2, c3, hsym⟩; rw [Hon.out, Hl.out] at hlk))
        go_wp2_with fail
        go_ret
        exact ⟨ret_b (by unfold beginsB; rw [Hl.out, decide_eq_false c1, decide_eq_true c2, decide_eq_true c3]; rfl), hB.then (Bw.then (Bw.drew (Below.refl _ _)) hb)⟩
    · have C1 := Lib.hid (decide_eq_false c1)
      have C3 := Lib.hid (decide_eq_false c3)
      have d2 : decide ((0 : Int) < (l.length : Int)) = true := by simpa using c2
      have d3 : decide ((l.length : Int) ≤ 4) = false := decide_eq_false (by omega)
      clear h h1 h3 hl
      go_enter Try.func40, Try.ntmps40
      go_wp2_with fail
      go_quiet (fail)
      go_wp2_with fail
      go_ret
      exact ⟨ret_b (by unfold beginsB; rw [C1.out, C3.out]; simp), hB.drewN _⟩
  · have C1 := Lib.hid (decide_eq_false c1)
    have C2 := Lib.hid (decide_eq_false c2)
    have d2 : decide ((0 : Int) < (l.length : Int)) = false := decide_eq_false (by omega)
    clear h h1 h3 hl
    go_enter Try.func40, Try.ntmps40
    go_wp2_with fail
    go_quiet (fail)
    go_wp2_with fail
    go_ret
    exact ⟨ret_b (by unfold beginsB; rw [C1.out, C2.out]; simp), hB.drewN _⟩
end Go.Proofs.Ytockfkmemoggiaa

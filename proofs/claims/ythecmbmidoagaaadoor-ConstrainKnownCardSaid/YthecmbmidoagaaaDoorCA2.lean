/- The contracts of 'SameSteps', 'large', 'many'. Conditions: what the arguments read as. -/
import Derived.Test.YthecmbmidoagaaaDoorCA
namespace Go.Proofs.YthecmbmidoagaaaDoor
open Go.RowKit Go.Maps
open Pl

set_option maxRecDepth 100000 in
set_option maxHeartbeats 4000000 in
theorem sames_any {v1 v2 : Value} {l1 l2 : List Stp} {w : World} (h1 : Rd tStp w v1 l1) (h2 : Rd tStp w v2 l2) :
    Calls Tryd.prog 25 #[v1, v2] w fun e w' => e = .returned (.bool (same l1 l2)) ∧ Bw w w' := by
  have hm1 := h1.len_le
  have hm2 := h2.len_le
  obtain ⟨A1, c1, rfl, _, _⟩ := h1.form
  obtain ⟨A2, c2, rfl, _, _⟩ := h2.form
  by_cases hl : l1.length = l2.length
  · have Hl := Lib.hid hl
    have hll : (l1.length : Int) = l2.length := by omega
    have hne : ((l1.length : Int) != (l2.length : Int)) = false := by rw [hll]; simp
    clear hll hl
    go_enter Tryd.func25, Tryd.ntmps25
    go_wp2_with fail
    go_loopw [5] (fun i wr => ∃ k : Nat, k ≤ l1.length ∧ i = .int .i64 k ∧ Dr w wr ∧ Pre k (fun j => l1[j]? = l2[j]?)) (fun i _ => l1.length - (intOf i).toNat)
    case atStart => exact ⟨0, Nat.zero_le _, rfl, Dr.refl _, Pre.zero⟩
    case round =>
      obtain ⟨k, hk, rfl, hd, hpre⟩ := hrel
      by_cases hlt : k < l1.length
      · have hlt2 : k < l2.length := by have := Hl.out; omega
        obtain ⟨b, off, x, rfl, hx, _, _, _, x0, x1, x2⟩ := (h1.drd hd).stp hlt
        obtain ⟨b', off', y, rfl, hy, _, _, _, y0, y1, y2⟩ := (h2.drd hd).stp hlt2
        obtain ⟨xa, xb, xc⟩ := x
        obtain ⟨ya, yb, yc⟩ := y
        simp only at *
        clear h1 h2
        by_cases hxy : xa = ya ∧ xb = yb ∧ xc = yc
        · obtain ⟨rfl, rfl, rfl⟩ := hxy
          have Hn : Hid (l1[k]? = l2[k]?) := by show _ = _; rw [hx.out, hy.out]
          go_wp2_with fail
          go_quiet (fail)
          go_wp2_with fail
          exact ⟨⟨k + 1, hlt, by go_num, hd.drewN _, hpre.snoc Hn.out⟩, by simp [intOf]; omega⟩
        · have Hr : Hid (false = same l1 l2) := by
            show _ = _
            symm
            unfold same
            rw [decide_eq_false_iff_not]
            intro e2
            rw [e2, hy.out] at hx
            have := hx.out
            injection this with this
            injection this with a1 a2
            injection a2 with a2 a3
            exact hxy ⟨a1.symm, a2.symm, a3.symm⟩
          have hq : ((xa == ya) && ((xb == yb) && (xc == yc))) = false := by
            rw [Bool.eq_false_iff]; intro e; simp at e; exact hxy e
          clear hq
          have h3 : (¬ xa = ya) ∨ (xa = ya ∧ ¬ xb = yb) ∨ (xa = ya ∧ xb = yb ∧ ¬ xc = yc) := by
            by_cases a1 : xa = ya
            · by_cases a2 : xb = yb
              · exact .inr (.inr ⟨a1, a2, fun a3 => hxy ⟨a1, a2, a3⟩⟩)
              · exact .inr (.inl ⟨a1, a2⟩)
            · exact .inl a1
          clear hxy
          rcases h3 with h3 | ⟨rfl, h3⟩ | ⟨rfl, rfl, h3⟩
          all_goals
            have h4 := beq_eq_false_iff_ne.2 h3
            go_wp2_with fail
            go_quiet (fail)
            go_wp2_with fail
            go_ret
            exact ⟨ret_b Hr.out, hd.bw.drewN _⟩
      · have hk2 : k = l1.length := by omega
        subst hk2
        have Hr : Hid (same l1 l2 = true) := by show _ = _; unfold same; rw [decide_eq_true_iff, ext_at Hl.out hpre]
        go_wp2_with fail
        go_ret
        exact ⟨ret_b Hr.out.symm, hd.bw⟩
  · have hne : ((l1.length : Int) != (l2.length : Int)) = true := by simpa using (by omega : ¬ (l1.length : Int) = l2.length)
    have Hr : Hid (same l1 l2 = false) := by
      show _ = _
      unfold same
      rw [decide_eq_false_iff_not]
      intro e
      exact hl (by rw [e])
    clear hl h1 h2
    go_enter Tryd.func25, Tryd.ntmps25
    go_wp2_with fail
    go_ret
    exact ⟨ret_b Hr.out.symm, Below.refl _ _⟩

/-- It answers with some bool. -/
def SomeB (e : Ending) : Prop := ∃ b : Bool, e = .returned (.bool b)
set_option maxRecDepth 100000 in
theorem large_any {v : Value} {l : List Coh} {w : World} (h : Rd tCoh w v l) :
    Calls Tryd.prog 15 #[v] w fun e w' => SomeB e ∧ Bw w w' := by
  have hm := h.len_le
  obtain ⟨A, c, rfl, _, _⟩ := h.form
  go_enter Tryd.func15, Tryd.ntmps15
  go_wp2_with fail
  go_loopw [3, 4] (fun n i wr => ∃ (k : Nat) (m : Int), k ≤ l.length ∧ i = .int .i64 k ∧ n = .int .i64 m ∧ wr = w) (fun _ i _ => l.length - (intOf i).toNat)
  case atStart => exact ⟨0, _, Nat.zero_le _, rfl, rfl, rfl⟩
  case round =>
    obtain ⟨k, m, hk, rfl, rfl, rfl⟩ := hrel
    by_cases hlt : k < l.length
    · obtain ⟨b, off, x, ux, rfl, hx, _, hxr, x0, x1⟩ := h.coh hlt
      obtain ⟨A3, c3, rfl, _, _⟩ := hxr.form
      by_cases hmm : m ≤ 300
      · go_wp2_with fail
        exact ⟨⟨k + 1, _, hlt, by go_num, rfl, by first | rfl | trivial⟩, by simp [intOf]; omega⟩
      · have hmm' : decide (m ≤ 300) = false := decide_eq_false hmm
        go_wp2_with fail
        go_ret
        exact ⟨⟨_, rfl⟩, Below.refl _ _⟩
    · go_wp2_with fail
      go_ret
      exact ⟨⟨_, rfl⟩, Below.refl _ _⟩

set_option maxRecDepth 100000 in
theorem many_any {v : Value} {l : List Rul} {w : World} (h : Rd tRul w v l) :
    Calls Tryd.prog 21 #[v] w fun e w' => SomeB e ∧ Bw w w' := by
  have hm := h.len_le
  obtain ⟨A, c, rfl, _, _⟩ := h.form
  go_enter Tryd.func21, Tryd.ntmps21
  go_wp2_with fail
  go_loopw [3, 4] (fun n i wr => ∃ (k : Nat) (m : Int), k ≤ l.length ∧ i = .int .i64 k ∧ n = .int .i64 m ∧ wr = w) (fun _ i _ => l.length - (intOf i).toNat)
  case atStart => exact ⟨0, _, Nat.zero_le _, rfl, rfl, rfl⟩
  case round =>
    obtain ⟨k, m, hk, rfl, rfl, rfl⟩ := hrel
    by_cases hlt : k < l.length
    · obtain ⟨b, off, x, ux1, ux2, rfl, hx, _, hx1, hx2, x0, x1, x2, x3⟩ := h.rul hlt
      obtain ⟨A3, c3, rfl, _, _⟩ := hx2.form
      by_cases hmm : m ≤ 150
      · go_wp2_with fail
        exact ⟨⟨k + 1, _, hlt, by go_num, rfl, by first | rfl | trivial⟩, by simp [intOf]; omega⟩
      · have hmm' : decide (m ≤ 150) = false := decide_eq_false hmm
        go_wp2_with fail
        go_ret
        exact ⟨⟨_, rfl⟩, Below.refl _ _⟩
    · go_wp2_with fail
      go_ret
      exact ⟨⟨_, rfl⟩, Below.refl _ _⟩
end Go.Proofs.YthecmbmidoagaaaDoor

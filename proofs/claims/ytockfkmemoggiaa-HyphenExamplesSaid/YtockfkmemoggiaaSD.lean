/- The contract of the reference's 'starts': where the syllables of a word begin. -/
import Derived.Test.YtockfkmemoggiaaR1
import Derived.Test.YtockfkmemoggiaaApp
import Derived.Test.YtockfkmemoggiaaS9
import Derived.Deep.CutBlock
import Derived.Deep.DeepCutAuto
namespace Go.Proofs.Ytockfkmemoggiaa
open Go.RowKit
open Pl

theorem sts_two (s : Snd) (x : List Int) : ∀ i, -1 ≤ (sts s x i).2 ∧ (sts s x i).2 ≤ i
  | 0 => by simp [sts]
  | i + 1 => by
    have := sts_two s x i
    simp only [sts]
    split
    · simp; omega
    · omega
theorem sts_len (s : Snd) (x : List Int) : ∀ i, (sts s x i).1.length ≤ i + 1
  | 0 => by simp [sts]
  | i + 1 => by
    have := sts_len s x i
    simp only [sts]
    split
    · split
      · simp; omega
      · simp; omega
    · omega
theorem atR_le (ons : List (List Int)) (x : List Int) (i : Nat) : ∀ j, atR ons x i j ≤ i - 1
  | 0 => Nat.le_refl _
  | j + 1 => by
    have := atR_le ons x i j
    unfold atR
    split <;> omega

theorem Dr.quiet2 {P : Program} {f : FuncId} {args : Array Value} {w : World} {n x : Nat} {v v' : Value} (hv : v = v')
    (h : Calls P f args (w.drewN (n + x)) fun e w' => e = .returned v ∧ Dr (w.drewN (n + x)) w') : Calls P f args (w.drewN (n + x)) fun e w'' => e = .returned v' ∧ ∃ m, w'' = w.drewN (n + m) := by
  subst hv
  refine h.mono fun _ _ ⟨he, j, hj⟩ => ⟨he, x + j, ?_⟩
  rw [hj, World.drewN_drewN, Nat.add_assoc]

/-- A list of numbers as ints. -/
def ints (l : List Nat) : List Int := l.map fun n : Nat => (n : Int)

set_option maxRecDepth 100000 in
set_option maxHeartbeats 1000000 in
theorem starts_any {a b c v : Value} {s : Snd} {x : List Int} {w : World} (h : SndR w a b c s) (hx : Rd tInt w v x) (hl : x.length ≤ 200) :
    Calls Try.prog 26 #[.agg #[a, b, c], v] w (FrA tInt 3 w (ints (sts s x x.length).1)) := by
  obtain ⟨X, cx, rfl, hlc, _⟩ := hx.form
  obtain ⟨i0, hi, hz0, hz1, hz2⟩ := info_parts infoI
  have Hz1 := Lib.hid hz1
  have hB0 : Bw w (w.alloc (.cells #[a, b, c] 25)) := (Below.refl _ _).alloc (Nat.le_refl _) _
  have hbox : (w.alloc (.cells #[a, b, c] 25)).heap[w.heap.size]? = some (.cells #[a, b, c] 25 (0, 0)) := at_new rfl
  have hsz : (w.alloc (.cells #[a, b, c] 25)).heap.size = w.heap.size + 1 := by simp
  have Hbox := Lib.hid hbox
  have Hsz := Lib.hid hsz
  have hA0 : Acc tInt 3 ((w.alloc (.cells #[a, b, c] 25)).alloc (.cells #[.int .i64 0] 3)) (w.heap.size + 1) (.slice (some ⟨w.heap.size + 1, 0, none⟩) 1 1) (ints (sts s x 0).1) :=
    Acc.lit1 (T := tInt) (y := 0) rfl (Nat.le_refl _) (at_new hsz.symm) (show tInt.rep _ _ _ _ from ⟨rfl, by omega, by omega⟩)
  have HA0 := Lib.hid hA0
  clear hbox hsz hA0
  go_enter Try.func26, Try.ntmps26
  go_wp2_with fail
  go_loopw [5, 6, 7] (fun o la i wr => ∃ k : Nat, k ≤ x.length ∧ i = .int .i64 k ∧ la = .int .i64 (sts s x k).2 ∧ Bw (w.alloc (.cells #[a, b, c] 25)) wr ∧ Acc tInt 3 wr (w.heap.size + 1) o (ints (sts s x k).1)) (fun _ _ i _ => x.length - (intOf i).toNat)
  case atStart => exact ⟨0, Nat.zero_le _, rfl, rfl, (Below.refl _ _).alloc (Nat.le_refl _) _, HA0.out⟩
  case round =>
    rename World => wo
    obtain ⟨k, hk, rfl, rfl, hbw, hA⟩ := hrel
    have hz1' : w.heap.size < wo.heap.size := by have := hbw.size; rw [Hsz.out] at this; omega
    have hbx : wo.heap[w.heap.size]? = some (.cells #[a, b, c] 25 (0, 0)) := (hbw.block _ (by rw [Hsz.out]; omega)).trans Hbox.out
    have c0 : wo.cell? ⟨w.heap.size, 0, none⟩ = some a := cell_of_row wo _ 0 _ 25 (0, 0) hbx
    have c2 : wo.cell? ⟨w.heap.size, 2, none⟩ = some c := cell_of_row wo _ 2 _ 25 (0, 0) hbx
    have hb1 := hB0.then hbw
    have hx1 := hx.after hb1
    have hs1 := h.after hb1
    have hst : sts s x (k + 1) = if hasB s.vow (x.getD k 0) then
        (if 0 ≤ (sts s x k).2 ∧ (sts s x k).2 < k then (sts s x k).1 ++ [atR s.ons x k (k - 1 - (sts s x k).2.toNat)] else (sts s x k).1, ((k + 1 : Nat) : Int))
        else sts s x k := rfl
    obtain ⟨ht1, ht2⟩ := sts_two s x k
    have ht3 := sts_len s x k
    have hal := atR_le s.ons x k (k - 1 - (sts s x k).2.toNat)
    have hil : (ints (sts s x k).1).length = (sts s x k).1.length := by simp [ints]
    by_cases hlt : k < x.length
    · obtain ⟨bx, ox, y, rfl, hy, _, _, hcx⟩ := hx1.int hlt
      rw [getD_of hy.out] at hst
      have Hst := Lib.hid hst
      clear hst
      cases p : hasB s.vow y <;> have Hp := Lib.hid p <;> clear p
      · go_wp2_with fail
        go_quiet ((go_at_call 32; exact Dr.quiet' (congrArg Value.bool Hp.out) (has_any (hs1.vow.dn _))))
        go_wp2_with fail
        exact ⟨⟨k + 1, hlt, by go_num, by rw [Hst.out, Hp.out]; rfl, hbw.drewN _, by rw [Hst.out, Hp.out]; exact hA.dn _⟩, by simp [intOf]; omega⟩
      · by_cases hin : 0 ≤ (sts s x k).2 ∧ (sts s x k).2 < k
        · obtain ⟨l0, hl0⟩ : ∃ l0 : Nat, (sts s x k).2 = l0 := ⟨(sts s x k).2.toNat, by omega⟩
          have hR : Hid (sts s x (k + 1) = ((sts s x k).1 ++ [atR s.ons x k (k - 1 - l0)], ((k + 1 : Nat) : Int))) := by
            show sts s x (k + 1) = _
            rw [Hst.out, Hp.out, if_pos rfl, if_pos hin, hl0]; rfl
          clear Hst
          rw [hl0] at hin hal ht1 ht2
          rw [hl0]
          rw [show ((l0 : Int)).toNat = l0 from rfl] at hal
          clear hl0
          generalize (sts s x k).1 = st at *
          have d0 : ¬ (l0 : Int) < 0 := by omega
          have d1 : (0 : Int) ≤ l0 := by omega
          have d2 : (l0 : Int) < k := by omega
          have hxn := hx1.dn
          go_wp2_with fail
          go_quiet ((go_at_call 32; exact Dr.quiet' (congrArg Value.bool Hp.out) (has_any (hs1.vow.dn _))))
          go_wp2_with fail
          go_loopw [8, 9] (fun t j wx => ∃ m : Nat, m ≤ k - 1 - l0 ∧ j = .int .i64 ((k : Int) - 2 - m) ∧ t = .int .i64 (atR s.ons x k m : Nat) ∧ Dr wo wx) (fun _ j _ => ((intOf j) + 2 - l0).toNat)
          case atStart => exact ⟨0, Nat.zero_le _, by simp, by simp [atR]; omega, ⟨_, rfl⟩⟩
          case round =>
            obtain ⟨m, hm, rfl, rfl, ⟨n, rfl⟩⟩ := hrel
            by_cases hml : m < k - 1 - l0
            · have hj : Hid (atR s.ons x k (m + 1) = if listedB s.ons (cut x (k - 2 - m) k) then k - 2 - m else atR s.ons x k m) := rfl
              have g1 : (l0 : Int) ≤ (k : Int) - 2 - m := by omega
              have ham := atR_le s.ons x k m
              have hc' := fun N => (hxn N).cut (l := k - 2 - m) (n := k) (m := k - (k - 2 - m)) (by omega) (by omega) rfl
              have eadd : (⟨bx, ox, none⟩ : Addr).add ((k - 2 - m) * tInt.size) = ⟨bx, ox + (k - 2 - m), none⟩ := by
                unfold Addr.add; rw [show (k - 2 - m) * tInt.size = k - 2 - m by simp [tInt]]
                split
                · rename_i h0; rw [h0]; rfl
                · rfl
              have hne : ¬ cx = k - 2 - m := by omega
              simp only [if_neg hne, Option.map_some, eadd] at hc'
              have hsl : ∀ W : World, (Instr.slice 22 (.slice (some ⟨bx, ox, none⟩) x.length cx) (some (.int .i64 ((k : Int) - 2 - m))) (some (.int .i64 (k : Int))) none).run Try.prog W = .ok (.slice (some ⟨bx, ox + (k - 2 - m), none⟩) (k - (k - 2 - m)) (cx - (k - 2 - m))) W := by
                intro W
                have := run_cut_lh Try.underlying22 hi bx ox x.length cx (l := (k : Int) - 2 - m) (h := (k : Int)) (l' := k - 2 - m) (h' := k) (by omega) rfl (by omega) (by omega) (by omega) W
                rwa [Hz1.out, Nat.mul_one] at this
              have hon := hs1.ons.dn
              clear eadd
              cases q : listedB s.ons (cut x (k - 2 - m) k) <;> have Hq := Lib.hid q <;> clear q
              · go_wp2_with fail
                go_quiet ((go_at_call 30; exact Dr.quiet2 (congrArg Value.bool Hq.out) (listed_any (hon _) (hc' _))))
                go_wp2_with fail
                exact ⟨⟨m + 1, by omega, by go_num, by rw [hj.out, Hq.out]; rfl, (Dr.refl _).drewN _⟩, by simp [intOf]; omega⟩
              · go_wp2_with fail
                go_quiet ((go_at_call 30; exact Dr.quiet2 (congrArg Value.bool Hq.out) (listed_any (hon _) (hc' _))))
                go_wp2_with fail
                exact ⟨⟨m + 1, by omega, by go_num, by rw [hj.out, Hq.out, if_pos rfl]; go_num, (Dr.refl _).drewN _⟩, by simp [intOf]; omega⟩
            · have hme : m = k - 1 - l0 := by omega
              subst hme
              have hA1 := (hA.dn n).alloc (.cells #[.int .i64 ((atR s.ons x k (k - 1 - l0) : Nat) : Int)] 3)
              have hb2 : Bw (w.alloc (.cells #[a, b, c] 25)) ((wo.drewN n).alloc (.cells #[.int .i64 ((atR s.ons x k (k - 1 - l0) : Nat) : Int)] 3)) := (hbw.drewN n).alloc hbw.size _
              have hz9 := hb2.size
              go_wp2_with (at_builtin; refine wpList_app_one rfl _ _ rfl Try.underlying22 hi hz0 hz1 hz2 rfl rfl hA1 rfl (at_new rfl) ⟨rfl, by omega, by omega⟩ (by rw [hil]; simp [maxLen]; omega) (by rw [hil]; omega) (by rw [← Hsz.out]; exact hz9) ?_; intro v1 w3 hA3 hg3 hat3)
              exact ⟨⟨k + 1, hlt, by go_num, by rw [hR.out]; go_num, Acc.bw hb2 hg3 (fun g e => (hA1.own g e).1) (Nat.le_of_eq Hsz.out), by rw [hR.out]; simpa [ints] using hA3⟩, by simp [intOf]; omega⟩
        · have hR : Hid (sts s x (k + 1) = ((sts s x k).1, ((k + 1 : Nat) : Int))) := by
            show sts s x (k + 1) = _
            rw [Hst.out, Hp.out, if_pos rfl, if_neg hin]
          clear Hst
          by_cases d0 : (0 : Int) ≤ (sts s x k).2
          · have d1 : ¬ (sts s x k).2 < (k : Int) := fun h => hin ⟨d0, h⟩
            generalize (sts s x k).2 = la at *
            go_wp2_with fail
            go_quiet ((go_at_call 32; exact Dr.quiet' (congrArg Value.bool Hp.out) (has_any (hs1.vow.dn _))))
            go_wp2_with fail
            exact ⟨⟨k + 1, hlt, by go_num, by rw [hR.out]; go_num, hbw.drewN _, by rw [hR.out]; exact hA.dn _⟩, by simp [intOf]; omega⟩
          · generalize (sts s x k).2 = la at *
            go_wp2_with fail
            go_quiet ((go_at_call 32; exact Dr.quiet' (congrArg Value.bool Hp.out) (has_any (hs1.vow.dn _))))
            go_wp2_with fail
            exact ⟨⟨k + 1, hlt, by go_num, by rw [hR.out]; go_num, hbw.drewN _, by rw [hR.out]; exact hA.dn _⟩, by simp [intOf]; omega⟩
    · have hk2 : k = x.length := by omega
      subst hk2
      clear hst
      go_wp2_with fail
      go_ret
      exact ⟨_, rfl, hb1, hA.weak (Nat.le_succ _)⟩
end Go.Proofs.Ytockfkmemoggiaa

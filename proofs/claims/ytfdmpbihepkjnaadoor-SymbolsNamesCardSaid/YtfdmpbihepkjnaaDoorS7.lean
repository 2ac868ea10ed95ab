/- The contracts of the reference's 'stands', 'longest' and 'Tokens'. Conditions: as stated. -/
import Derived.Test.YtfdmpbihepkjnaaDoorS6
import Derived.Test.YtfdmpbihepkjnaaDoorPlain4
namespace Go.Proofs.YtfdmpbihepkjnaaDoor
open Go.RowKit Go.Maps
open Pl

theorem stands_any {x y : ByteArray} {a : Nat} {w : World} (hx : x.size ≤ 16384) (ha : a ≤ x.size) (hy : y.size ≤ 40) :
    Calls Tryd.prog 43 #[.string x, .int .i64 a, .string y] w fun e w' => e = .returned (.bool (standsB x a y)) ∧ w' = w := by
  unfold standsB
  by_cases h1 : a + y.size ≤ x.size
  · have hcut : ∀ w', (Instr.slice 9 (.string x) (some (.int .i64 (a : Int))) (some (.int .i64 ((a : Int) + y.size))) none).run Tryd.prog w' = .ok (.string (x.extract a (a + y.size))) w' := fun w' => cut_str x rfl (by omega) (by omega) h1 w'
    rw [decide_eq_true h1]
    by_cases h2 : x.extract a (a + y.size) = y
    · rw [decide_eq_true h2]
      rw [h2] at hcut
      have e1 := str_eq y
      go_enter Tryd.func43, Tryd.ntmps43
      go_wp2_with fail
      go_ret
      exact ⟨ret_b (by simp), rfl⟩
    · rw [decide_eq_false h2]
      have e1 := str_ne h2
      go_enter Tryd.func43, Tryd.ntmps43
      go_wp2_with fail
      go_ret
      exact ⟨ret_b (by simp), rfl⟩
  · rw [decide_eq_false h1]
    go_enter Tryd.func43, Tryd.ntmps43
    go_wp2_with fail
    go_ret
    exact ⟨rfl, rfl⟩

set_option maxRecDepth 100000 in
theorem longest_any {v : Value} {t : List ByteArray} {x : ByteArray} {a : Nat} {w : World} (h : Rd tStr w v t) (hx : x.size ≤ 16384) (ha : a ≤ x.size) (ht : ∀ y ∈ t, y.size ≤ 40) :
    Calls Tryd.prog 36 #[v, .string x, .int .i64 a] w fun e w' => e = .returned (.int .i64 ((rl t x a t.length).1 : Nat)) ∧ w' = w := by
  have hm := h.len_le
  have Ht := Lib.hid ht
  obtain ⟨A, c, rfl, _, _⟩ := h.form
  clear ht
  go_enter Tryd.func36, Tryd.ntmps36
  go_wp2_with fail
  go_loopw [7, 8, 9] (fun s n i wr => ∃ k : Nat, k ≤ t.length ∧ i = .int .i64 k ∧ wr = w ∧ s = .int .i64 ((rl t x a k).1 : Nat) ∧ n = .int .i64 ((rl t x a k).2 : Nat)) (fun _ _ i _ => t.length - (intOf i).toNat)
  case atStart => exact ⟨0, Nat.zero_le _, rfl, rfl, rfl, rfl⟩
  case round =>
    obtain ⟨k, hk, rfl, rfl, rfl, rfl⟩ := hrel
    by_cases hlt : k < t.length
    · obtain ⟨b, off, y, rfl, hy, hy1, hc⟩ := h.str hlt
      have hy4 := Ht.out y (List.mem_of_getElem? hy.out)
      have hst := Lib.hid (fun w' => stands_any (x := x) (y := y) (a := a) (w := w') hx ha hy4)
      have hrl : rl t x a (k + 1) = if (rl t x a k).2 < y.size ∧ standsB x a y = true then (k + 1, y.size) else rl t x a k := by rw [rl, getD_of hy.out]
      have Hrl := Lib.hid hrl
      clear hrl
      generalize rl t x a k = r at *
      obtain ⟨s, n⟩ := r
      simp only at Hrl ⊢
      by_cases h1 : n < y.size
      · cases q : standsB x a y
        · rw [q] at hst Hrl
          have Hr := Lib.hid (Hrl.out.trans (if_neg (by simp)))
          clear q Hrl
          go_wp2_with (go_at_call 43; (with_reducible refine (hst.out _).mono ?_); rintro e w1 ⟨rfl, rfl⟩)
          exact ⟨⟨k + 1, hlt, by go_num, by first | rfl | trivial, by rw [Hr.out], by rw [Hr.out]⟩, by simp [intOf]; omega⟩
        · rw [q] at hst Hrl
          have Hr := Lib.hid (Hrl.out.trans (if_pos ⟨h1, rfl⟩))
          clear q Hrl
          go_wp2_with (go_at_call 43; (with_reducible refine (hst.out _).mono ?_); rintro e w1 ⟨rfl, rfl⟩)
          exact ⟨⟨k + 1, hlt, by go_num, by first | rfl | trivial, by rw [Hr.out]; go_num, by rw [Hr.out]⟩, by simp [intOf]; omega⟩
      · have Hr := Lib.hid (Hrl.out.trans (if_neg (by omega)))
        clear Hrl
        go_wp2_with (go_at_call 43; (with_reducible refine (hst.out _).mono ?_); rintro e w1 ⟨rfl, rfl⟩)
        exact ⟨⟨k + 1, hlt, by go_num, by first | rfl | trivial, by rw [Hr.out], by rw [Hr.out]⟩, by simp [intOf]; omega⟩
    · have hk2 : k = t.length := by omega
      subst hk2
      go_wp2_with fail
      go_ret
      exact ⟨rfl, rfl⟩

/-- What both 'Tokens' hand back. -/
def TkR (w : World) (r : List Int × Int × Int) (e : Ending) (w' : World) : Prop :=
  ∃ u, e = .returned (.tuple #[u, .int .i64 r.2.1, .int .i64 r.2.2]) ∧ Bw w w' ∧ Sl tInt w' (Hi w.heap.size) u r.1

theorem vT_names {t : List ByteArray} (h : vT t = true) : ∀ y ∈ t, 1 ≤ y.size ∧ y.size ≤ 40 := fun y hy => by
  have := List.all_eq_true.1 (vT_parts h).2.1 y hy
  unfold nameB at this
  simp only [Bool.and_eq_true, decide_eq_true_eq] at this
  exact this.1

set_option maxRecDepth 100000 in
set_option maxHeartbeats 2000000 in
theorem rtokens_any {v : Value} {t : List ByteArray} {x : ByteArray} {w : World} (h : Rd tStr w v t) :
    Calls Tryd.prog 20 #[v, .string x] w (TkR w (tok vT t x)) := by
  obtain ⟨i0, hi, hz0, hz1, hzb⟩ := info_parts infoI
  have HV := Lib.hid (rvalid_any h)
  have h0 := Lib.hid h
  obtain ⟨A, c, rfl, _, _⟩ := h.form
  clear h
  have hend : ∀ (r : List Int × Int × Int) (w' : World) (a b : Int) (u : Value) (l : List Int) (e : Ending), tok vT t x = r → r = (l, a, b) → e = .returned (.tuple #[u, .int .i64 a, .int .i64 b]) → Bw w w' → Sl tInt w' (Hi w.heap.size) u l → TkR w (tok vT t x) e w' := by
    intro r w' a b u l e h1 h2 h3 h4 h5
    rw [h1, h2]
    exact ⟨u, h3, h4, h5⟩
  have Hend := Lib.hid hend
  clear hend
  cases q : vT t
  · have Hr : Hid (tok vT t x = ([], 0, 1)) := by show _ = _; unfold tok; rw [if_pos q]
    rw [q] at HV
    clear q
    go_enter Tryd.func20, Tryd.ntmps20
    go_wp2_with (go_at_call 18; (with_reducible refine HV.out.mono ?_); rintro e w1 ⟨rfl, hb1⟩)
    go_ret3
    exact Hend.out _ _ _ _ _ _ _ Hr.out rfl rfl hb1 Sl.nil
  · rw [q] at HV
    by_cases hx : 16384 < x.size
    · have Hr : Hid (tok vT t x = ([], 0, 2)) := by show _ = _; unfold tok; rw [if_neg (by rw [q]; simp), if_pos hx]
      clear q
      go_enter Tryd.func20, Tryd.ntmps20
      go_wp2_with (go_at_call 18; (with_reducible refine HV.out.mono ?_); rintro e w1 ⟨rfl, hb1⟩)
      go_ret3
      exact Hend.out _ _ _ _ _ _ _ Hr.out rfl rfl hb1 Sl.nil
    · have Hr : Hid (tok vT t x = tokF t x x.size 0 []) := by show _ = _; unfold tok; rw [if_neg (by rw [q]; simp), if_neg hx]
      have Hnm := Lib.hid (vT_names q)
      have hxs : x.size ≤ 16384 := by omega
      clear q
      go_enter Tryd.func20, Tryd.ntmps20
      go_wp2_with (go_at_call 18; (with_reducible refine HV.out.mono ?_); rintro e w1 ⟨rfl, hb1⟩)
      have h1 := Lib.hid (h0.out.after hb1)
      go_loopw [7, 8] (fun l i wr => ∃ (a f : Nat) (acc : List Int), a ≤ x.size ∧ i = .int .i64 a ∧ Bw w1 wr ∧ Acc tInt 3 wr w1.heap.size l acc ∧ tokF t x f a acc = tok vT t x ∧ x.size ≤ a + f ∧ acc.length ≤ a) (fun _ i _ => x.size - (intOf i).toNat)
      case atStart => exact ⟨0, x.size, [], Nat.zero_le _, rfl, Below.refl _ _, Acc.nil _ _, Hr.out.symm, by omega, Nat.le_refl _⟩
      case round =>
        obtain ⟨a, f, acc, ha, rfl, hbr, hA, hok, hf, hacc⟩ := hrel
        by_cases hlt : a < x.size
        · obtain ⟨f, rfl⟩ : ∃ f', f = f' + 1 := ⟨f - 1, by omega⟩
          have hL := Lib.hid (longest_any (a := a) (h1.out.after hbr) hxs ha (fun y hy => (Hnm.out y hy).2))
          rw [tokF, if_neg (by omega)] at hok
          cases hr : rl t x a t.length with
          | mk s n =>
            rw [hr] at hL hok
            simp only at hL hok
            by_cases hs : s = 0
            · subst hs
              rw [if_pos rfl] at hok
              have Hok := Lib.hid hok
              clear hok hr
              go_wp2_with (go_at_call 36; (with_reducible refine hL.out.mono ?_); rintro e w2 ⟨rfl, rfl⟩)
              go_ret3
              exact Hend.out _ _ _ _ _ _ _ Hok.out.symm rfl rfl (hb1.then hbr) Sl.nil
            · rw [if_neg hs] at hok
              obtain ⟨n1, n2, n3, n4, _⟩ := rl_step hr hs
              have Hok := Lib.hid hok
              obtain ⟨k, rfl⟩ : ∃ k, s = k + 1 := ⟨s - 1, by omega⟩
              obtain ⟨b, off, y, rfl, hy, hy1, hc0⟩ := h1.out.str (k := k) (by omega)
              have hyn : y.size = n := by rw [← n4, show k + 1 - 1 = k from rfl, getD_of hy.out]
              have hbl := World.block_lt_of_cell? w1 _ hc0
              have HC := Lib.hid (fun (w' : World) (hb : Bw w1 w') => (World.cell?_of_block (w := w1) (hb.block _ hbl)).trans hc0)
              have hA2 := hA.alloc (.cells #[.int .i64 ((k : Int) + 1)] 3)
              have hb4 := bw_al hbr (.cells #[.int .i64 ((k : Int) + 1)] 3)
              clear hok hr hs n4
              go_wp2_with (first
                | (go_at_call 36; (with_reducible refine hL.out.mono ?_); rintro e w2 ⟨rfl, rfl⟩)
                | (at_builtin; first
                  | (refine wpList_app_one rfl _ _ rfl Tryd.underlying30 hi hz0 hz1 hzb rfl rfl hA2 rfl (at_new rfl) ⟨rfl, by omega, by omega⟩ (by unfold maxLen; omega) (by omega) hb4.size ?_
                     intro v1 w3 hA3 hg3 hat3
                     have hb5 := Acc.bw hb4 hg3 (fun g e => (hA2.own g e).1) (Nat.le_refl _)
                     have hc3 := HC.out _ hb5)))
              exact ⟨⟨a + n, f, _, n2, by go_num, hb5, hA3, Hok.out, by omega, by simp; omega⟩, by simp [intOf]; omega⟩
        · have hfe : tok vT t x = fin acc := by rw [← hok]; exact tokF_end (by omega)
          have hu := hA.hi
          obtain ⟨U, uc, rfl, _, _⟩ := hu.form
          have hu2 := hu.weaken fun b (hb : w1.heap.size ≤ b) => show w.heap.size ≤ b from Nat.le_trans hb1.size hb
          by_cases h2 : 200 < acc.length
          · have Hf := Lib.hid (hfe.trans (if_pos h2))
            clear hok hfe
            go_wp2_with fail
            go_ret3
            exact Hend.out _ _ _ _ _ _ _ Hf.out rfl rfl (hb1.then hbr) Sl.nil
          · have Hf := Lib.hid (hfe.trans (if_neg h2))
            clear hok hfe
            go_wp2_with fail
            go_ret3
            exact Hend.out _ _ _ _ _ _ _ Hf.out rfl rfl (hb1.then hbr) hu2
end Go.Proofs.YtfdmpbihepkjnaaDoor

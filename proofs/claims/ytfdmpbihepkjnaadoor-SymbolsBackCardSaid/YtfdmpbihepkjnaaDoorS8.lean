/- The contract of the program's 'Tokens'. Conditions: what the slice reads as; the library's tables; the text's size. -/
import Derived.Test.YtfdmpbihepkjnaaDoorS7
namespace Go.Proofs.YtfdmpbihepkjnaaDoor
open Go.RowKit Go.Maps
open Pl

set_option maxRecDepth 100000 in
set_option maxHeartbeats 4000000 in
theorem tokens_any {v : Value} {t : List ByteArray} {x : ByteArray} {w : World} (hT : Tb w) (h : Rd tStr w v t) :
    Calls Tryd.prog 19 #[v, .string x] w (TkR w (tok vT t x)) := by
  obtain ⟨i0, hi, hz0, hz1, hzb⟩ := info_parts infoI
  have HV := Lib.hid (valid_any hT h)
  have HN := Lib.hid (fun (w' : World) (hb : Bw w w') => numbers_any (h.after hb))
  have h0 := Lib.hid h
  have hm := h.len_le
  obtain ⟨A, c, rfl, _, _⟩ := h.form
  clear h
  have hend : ∀ (r : List Int × Int × Int) (w' : World) (a b : Int) (u : Value) (l : List Int) (e : Ending), tok vT t x = r → r = (l, a, b) → e = .returned (.tuple #[u, .int .i64 a, .int .i64 b]) → Bw w w' → Sl tInt w' (Hi w.heap.size) u l → TkR w (tok vT t x) e w' := by
    intro r w' a b u l e h1 h2 h3 h4 h5
    rw [h1, h2]
    exact ⟨u, h3, h4, h5⟩
  have Hend := Lib.hid hend
  clear hend
  cases q : vT t
  · have Hr : Hid (tok vT t x = ([], 0, 1)) := by show _ = _; unfold tok; rw [if_pos q]
    rw [q] at HV
    clear q
    go_enter Tryd.func19, Tryd.ntmps19
    go_wp2_with (go_at_call 17; (with_reducible refine HV.out.mono ?_); rintro e w1 ⟨rfl, hb1⟩)
    go_ret3
    exact Hend.out _ _ _ _ _ _ _ Hr.out rfl rfl hb1 Sl.nil
  · rw [q] at HV
    by_cases hx : 16384 < x.size
    · have Hr : Hid (tok vT t x = ([], 0, 2)) := by show _ = _; unfold tok; rw [if_neg (by rw [q]; simp), if_pos hx]
      clear q
      go_enter Tryd.func19, Tryd.ntmps19
      go_wp2_with (go_at_call 17; (with_reducible refine HV.out.mono ?_); rintro e w1 ⟨rfl, hb1⟩)
      go_ret3
      exact Hend.out _ _ _ _ _ _ _ Hr.out rfl rfl hb1 Sl.nil
    · have Hr : Hid (tok vT t x = tokF t x x.size 0 []) := by show _ = _; unfold tok; rw [if_neg (by rw [q]; simp), if_neg hx]
      have Hnm := Lib.hid (vT_names q)
      have Hnd := Lib.hid (vT_parts q).2.2
      have ht5 := (vT_parts q).1
      have hxs : x.size ≤ 16384 := by omega
      clear q
      go_enter Tryd.func19, Tryd.ntmps19
      go_wp2_with (first
        | (go_at_call 17; (with_reducible refine HV.out.mono ?_); rintro e w1 ⟨rfl, hb1⟩)
        | (go_at_call 31; (with_reducible refine (HN.out _ hb1).mono ?_); rintro e w2 ⟨rfl, hb2, hM⟩))
      have hb12 := hb1.then hb2
      have h2 := Lib.hid (h0.out.after hb12)
      have hLg : ∀ k, k ≤ t.length → lgN t k ≤ 40 := by
        intro k hk
        induction k with
        | zero => exact Nat.zero_le _
        | succ k ih =>
          have := ih (by omega)
          have h3 := (Hnm.out _ (List.mem_of_getElem? (getD_mem (show k < t.length by omega)))).2
          rw [lgN]; omega
      have HLg := Lib.hid hLg
      clear hLg HV HN
      go_loopw [8, 25] (fun g i wr => ∃ k : Nat, k ≤ t.length ∧ i = .int .i64 k ∧ wr = w2 ∧ g = .int .i64 (lgN t k : Nat)) (fun _ i _ => t.length - (intOf i).toNat)
      case atStart => exact ⟨0, Nat.zero_le _, rfl, rfl, rfl⟩
      case round =>
        obtain ⟨k, hk, rfl, rfl, rfl⟩ := hrel
        by_cases hlt : k < t.length
        · obtain ⟨b, off, y, rfl, hy, hy1, hc0⟩ := h2.out.str hlt
          have hst : Hid (lgN t (k + 1) = max (lgN t k) y.size) := by show _ = _; rw [lgN, getD_of hy.out]
          have hmx : ((max (lgN t k) y.size : Nat) : Int) = max (lgN t k : Int) (y.size : Int) := by omega
          generalize hlk : lgN t k = lk at *
          go_wp2_with fail
          exact ⟨⟨k + 1, hlt, by go_num, by first | rfl | trivial, by rw [hst.out]; go_num⟩, by simp [intOf]; omega⟩
        · have hk2 : k = t.length := by omega
          subst hk2
          have hL40 := HLg.out _ (Nat.le_refl _)
          generalize hlk : lgN t t.length = lk at *
          have Hlk := Lib.hid hlk
          clear hlk
          go_wp2_with fail
          rename World => W2
          go_loopw [4, 5] (fun l i wr2 => ∃ (a f : Nat) (acc : List Int), a ≤ x.size ∧ i = .int .i64 a ∧ Bw W2 wr2 ∧ Acc tInt 3 wr2 W2.heap.size l acc ∧ tokF t x f a acc = tok vT t x ∧ x.size ≤ a + f ∧ acc.length ≤ a) (fun _ i _ => x.size - (intOf i).toNat)
          case atStart => exact ⟨0, x.size, [], Nat.zero_le _, rfl, Below.refl _ _, Acc.nil _ _, Hr.out.symm, by omega, Nat.le_refl _⟩
          case round =>
            obtain ⟨a, f, acc, ha, rfl, hbr, hA, hok, hf, hacc⟩ := hrel
            by_cases hlt : a < x.size
            · obtain ⟨f, rfl⟩ : ∃ f', f = f' + 1 := ⟨f - 1, by omega⟩
              rw [tokF, if_neg (by omega)] at hok
              have hM2 := hM.after hbr
              have hMM : mostN t x a = min lk (x.size - a) := by unfold mostN; rw [Hlk.out]
              obtain ⟨M, hMe⟩ : ∃ M : Nat, mostN t x a = M := ⟨_, rfl⟩
              rw [hMe] at hMM
              have hM1 : M ≤ x.size - a := by omega
              have hmin : min (lk : Int) ((x.size : Int) - a) = (M : Int) := by omega
              have HMe := Lib.hid hMe
              have Hok0 := Lib.hid hok
              clear hMM hMe hok
              go_wp2_with fail
              rename World => W3
              go_loopw [4, 12, 45] (fun l g i wr3 => ∃ j : Nat, j ≤ M ∧ i = .int .i64 j ∧ wr3 = W3 ∧ l = u4 ∧ g = .int .i64 0 ∧ Pre j (fun j' => posN (x.extract a (a + (M - j'))) t = none)) (fun _ _ i _ => M - (intOf i).toNat)
              case atStart => exact ⟨0, Nat.zero_le _, rfl, rfl, rfl, rfl, Pre.zero⟩
              case round =>
                obtain ⟨j, hj, rfl, rfl, rfl, rfl, hpre⟩ := hrel
                by_cases hjl : j < M
                · have hcut : ∀ w', (Instr.slice 9 (.string x) (some (.int .i64 (a : Int))) (some (.int .i64 ((a : Int) + M - j))) none).run Tryd.prog w' = .ok (.string (x.extract a (a + (M - j)))) w' := fun w' => cut_str x rfl (by omega) (by omega) (by omega) w'
                  have hxz : (x.extract a (a + (M - j))).size ≤ maxLen := by rw [ByteArray.size_extract]; unfold maxLen; omega
                  have hL := look_tab Hnd.out hM2 hxz false
                  cases hp : posN (x.extract a (a + (M - j))) t with
                  | none =>
                    rw [hp] at hL
                    have Hp := Lib.hid hp
                    clear hp
                    go_wp2_with fail
                    exact ⟨⟨j + 1, hjl, by go_num, by first | rfl | trivial, rfl, rfl, hpre.snoc Hp.out⟩, by simp [intOf]; omega⟩
                  | some k =>
                    rw [hp] at hL
                    have hrl := rl_found (t := t) (x := x) (a := a) (l := M - j) (k := k) Hnd.out (by omega) (by rw [HMe.out]; omega) hlt hp (fun l' h1 h2 => by
                      rw [HMe.out] at h2
                      have := hpre (M - l') (by omega)
                      simp only [show M - (M - l') = l' by omega] at this
                      exact this)
                    have hok := Hok0.out
                    rw [hrl] at hok
                    simp only at hok
                    rw [if_neg (by omega)] at hok
                    have hkt : k < t.length := (List.getElem?_eq_some_iff.1 (posN_spec hp).1).1
                    have Hok := Lib.hid hok
                    have hA2 := hA.alloc (.cells #[.int .i64 ((k : Int) + 1)] 3)
                    have hb4 := bw_al hbr (.cells #[.int .i64 ((k : Int) + 1)] 3)
                    have hfS : fS (some k) = (k : Int) + 1 := rfl
                    rw [hfS] at hL
                    clear hok hp hrl hfS hpre
                    go_wp2_with (at_builtin; first
                      | (refine wpList_app_one rfl _ _ rfl Tryd.underlying30 hi hz0 hz1 hzb rfl rfl hA2 rfl (at_new rfl) ⟨rfl, by omega, by omega⟩ (by unfold maxLen; omega) (by omega) hb4.size ?_
                         intro v1 w3 hA3 hg3 hat3
                         have hb5 := Acc.bw hb4 hg3 (fun g e => (hA2.own g e).1) (Nat.le_refl _)))
                    exact ⟨⟨a + (M - j), f, _, by omega, by go_num, hb5, hA3, Hok.out, by omega, by simp; omega⟩, by simp [intOf]; omega⟩
                · have hjM : j = M := by omega
                  subst hjM
                  have hrl := rl_lost (t := t) (x := x) (a := a) (fun l' h1 h2 => by
                      rw [HMe.out] at h2
                      have := hpre (j - l') (by omega)
                      simp only [show j - (j - l') = l' by omega] at this
                      exact this)
                  have hok := Hok0.out
                  rw [hrl] at hok
                  simp only at hok
                  rw [if_pos (by trivial)] at hok
                  have Hok := Lib.hid hok
                  clear hok hrl hpre
                  go_wp2_with fail
                  go_ret3
                  exact Hend.out _ _ _ _ _ _ _ Hok.out.symm rfl rfl (hb12.then hbr) Sl.nil
            · have hfe : tok vT t x = fin acc := by rw [← hok]; exact tokF_end (by omega)
              have hu := hA.hi
              obtain ⟨U, uc, rfl, _, _⟩ := hu.form
              have hu2 := hu.weaken fun b (hb : W2.heap.size ≤ b) => show w.heap.size ≤ b from Nat.le_trans hb12.size hb
              by_cases h2 : 200 < acc.length
              · have Hf := Lib.hid (hfe.trans (if_pos h2))
                clear hok hfe
                go_wp2_with fail
                go_ret3
                exact Hend.out _ _ _ _ _ _ _ Hf.out rfl rfl (hb12.then hbr) Sl.nil
              · have Hf := Lib.hid (hfe.trans (if_neg h2))
                clear hok hfe
                go_wp2_with fail
                go_ret3
                exact Hend.out _ _ _ _ _ _ _ Hf.out rfl rfl (hb12.then hbr) hu2
end Go.Proofs.YtfdmpbihepkjnaaDoor

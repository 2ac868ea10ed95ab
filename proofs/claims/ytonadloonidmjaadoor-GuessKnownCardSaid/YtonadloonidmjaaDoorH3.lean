/- The contracts of the reference's tags and Known. Conditions: what the slices read as. -/
import Derived.Test.YtonadloonidmjaaDoorG4
import Derived.Test.YtonadloonidmjaaDoorS3
import Derived.Test.YtonadloonidmjaaDoorH2
namespace Go.Proofs.YtonadloonidmjaaDoor
open Go.RowKit
open Pl

theorem rtags_any {s : ByteArray} {w : World} : Calls Tryd.prog 56 #[.string s] w fun e w' => e = .returned (.bool (tagsB s)) ∧ Bw w w' := by
  by_cases h0 : s.size = 0
  · have hs := bytes_empty.2 h0
    have e : Hid (tagsB s = false) := by unfold tagsB; rw [decide_eq_false (by omega)]; rfl
    rw [e.out]
    subst hs
    clear h0
    go_enter Tryd.func56, Tryd.ntmps56
    go_wp2
    go_ret
    exact ⟨rfl, Below.refl _ _⟩
  · have hs : ¬ s = ⟨#[]⟩ := fun e => h0 (bytes_empty.1 e)
    have hne : ¬ s.toList = [] := fun e => hs (toList_inj (e.trans (by rw [Lib.toList_data])))
    have hne2 : (s.toList == []) = false := by simpa using hne
    have hne3 := str_ne hs
    by_cases h1 : 16384 < s.size
    · have e : Hid (tagsB s = false) := by unfold tagsB; rw [decide_eq_false (show ¬ s.size ≤ 16384 by omega), Bool.and_false, Bool.false_and]; rfl
      rw [e.out]
      clear h0 hs
      go_enter Tryd.func56, Tryd.ntmps56
      go_wp2
      go_ret
      exact ⟨rfl, Below.refl _ _⟩
    · have e : Hid (tagsB s = (pcs s).all oneB) := by
        unfold tagsB
        show _ = _
        rw [decide_eq_true (show 1 ≤ s.size by omega), decide_eq_true (show s.size ≤ 16384 by omega), pcs_ok]; rfl
      rw [e.out]
      have hps := Lib.hid (pcs_size s s.size 0)
      have HP := Lib.hid (pieces_any (w := w) (s := s) (by omega))
      have hz : ¬ (16384 < (s.size : Int)) := by omega
      have hz2 : s.size ≤ 16384 := by omega
      clear h0 hs h1 e
      go_enter Tryd.func56, Tryd.ntmps56
      go_wp2_with fail
      refine HP.out.mono ?_
      rintro e w1 ⟨u, rfl, hb1, hu⟩
      have hu1 := hu.rd
      have hpl := hu1.len_le
      obtain ⟨U, uc, rfl, _, _⟩ := hu.form
      go_wp2_with fail
      go_loopw [4] (fun i wr => ∃ k : Nat, k ≤ (pcs s).length ∧ i = .int .i64 k ∧ wr = w1 ∧ Pre k (fun j => ∀ y, (pcs s)[j]? = some y → oneB y = true)) (fun i _ => (pcs s).length - (intOf i).toNat)
      case atStart => exact ⟨0, Nat.zero_le _, rfl, rfl, Pre.zero⟩
      case round =>
        obtain ⟨k, hk, rfl, rfl, hpre⟩ := hrel
        by_cases hlt : k < (pcs s).length
        · obtain ⟨b, off, p, rfl, hp, hp1, hc⟩ := hu1.str hlt
          have hp2 := hps.out p (List.mem_of_getElem? hp.out)
          have HO := Lib.hid (one_any (w := wr) (p := p) (by omega))
          cases ho : oneB p
          · have Hq : Hid ((pcs s).all oneB = false) := by
              show _ = _
              rw [List.all_eq_false]
              exact ⟨p, List.mem_of_getElem? hp.out, by rw [ho]; simp⟩
            rw [ho] at HO
            clear ho
            go_wp2_with fail
            refine HO.out.mono ?_
            rintro e w2 ⟨rfl, rfl⟩
            go_wp2_with fail
            go_ret
            exact ⟨ret_b Hq.out.symm, hb1⟩
          · have Hq := Lib.hid ho
            rw [ho] at HO
            clear ho
            go_wp2_with fail
            refine HO.out.mono ?_
            rintro e w2 ⟨rfl, rfl⟩
            go_wp2_with fail
            refine ⟨⟨k + 1, hlt, by go_num, by first | rfl | trivial, hpre.snoc fun z hz => ?_⟩, by simp [intOf]; omega⟩
            rw [hp.out] at hz; injection hz with hz; subst hz; exact Hq.out
        · have Hq : Hid ((pcs s).all oneB = true) := by
            show _ = _
            rw [List.all_eq_true]
            intro y hy
            obtain ⟨j, hj⟩ := List.mem_iff_getElem?.1 hy
            exact hpre j (by have := (List.getElem?_eq_some_iff.1 hj).1; omega) y hj
          go_wp2_with fail
          go_ret
          exact ⟨ret_b Hq.out.symm, hb1⟩

theorem rknown_any {u : Value} {k : Kn} {w : World} (h : Rd tInt w u k.1) : Calls Tryd.prog 37 #[.agg #[u, .string k.2]] w fun e w' => e = .returned (.bool (knB k)) ∧ Bw w w' := by
  obtain ⟨A, n, c, rfl, _, _, _⟩ := h.form'
  go_enter Tryd.func37, Tryd.ntmps37
  have hb0 := bw_refl_al w (.cells #[.slice A n c, .string k.2] 27)
  have HW := Lib.hid (rword_any (h.after hb0))
  have row := at_new (w := w) (o := .cells #[.slice A n c, .string k.2] 27) rfl
  obtain ⟨w0, hw0⟩ : ∃ w0, w0 = w.alloc (.cells #[.slice A n c, .string k.2] 27) := ⟨_, rfl⟩
  go_wp2_with fail
  rw [← hw0] at HW hb0 row ⊢
  have c0 := row2_0 row
  have c1 := row2_1 row
  clear h hw0 row
  cases hq : wordB k.1
  · have e : Hid (knB k = false) := by unfold knB; rw [hq]; rfl
    rw [hq] at HW
    clear hq
    (with_reducible refine HW.out.mono ?_)
    rintro e w' ⟨rfl, n, rfl⟩
    go_wp2_with fail
    go_ret
    exact ⟨ret_b e.out.symm, hb0.then (Dr.n _ _).bw⟩
  · have e : Hid (knB k = tagsB k.2) := by unfold knB; rw [hq]; rfl
    rw [hq] at HW
    clear hq
    (with_reducible refine HW.out.mono ?_)
    rintro e w' ⟨rfl, n, rfl⟩
    go_wp2_with (go_at_call 56; (with_reducible refine rtags_any.mono ?_); rintro e w' ⟨rfl, hb⟩)
    go_ret
    exact ⟨ret_b e.out.symm, hb0.then ((Dr.n _ _).bw.then hb)⟩
end Go.Proofs.YtonadloonidmjaaDoor

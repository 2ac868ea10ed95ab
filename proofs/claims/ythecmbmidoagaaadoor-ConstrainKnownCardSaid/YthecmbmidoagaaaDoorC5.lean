/- The contracts of the validity of cohorts, tests and rules, the program's and the reference's. Conditions: the library's tables; what the arguments read as. -/
import Derived.Test.YthecmbmidoagaaaDoorC4
namespace Go.Proofs.YthecmbmidoagaaaDoor
open Go.RowKit Go.Maps
open Pl

theorem all_bad {α : Type} {l : List α} {p : α → Bool} {k : Nat} {x : α} (h : l[k]? = some x) (hp : p x = false) : l.all p = false := by
  rw [List.all_eq_false]; exact ⟨x, List.mem_of_getElem? h, by rw [hp]; simp⟩
theorem all_good {α : Type} {l : List α} {p : α → Bool} {k : Nat} (hk : ¬ k < l.length) (h : Pre k fun j => ∀ y, l[j]? = some y → p y = true) : l.all p = true := by
  rw [List.all_eq_true]
  intro x hx
  obtain ⟨j, hj⟩ := List.mem_iff_getElem?.1 hx
  exact h j (by have := (List.getElem?_eq_some_iff.1 hj).1; omega) x hj
theorem pre_one {α : Type} {l : List α} {p : α → Bool} {k : Nat} {x : α} (h : l[k]? = some x) (hp : p x = true) : ∀ y, l[k]? = some y → p y = true := fun y hy => by
  rw [h] at hy; injection hy with hy; subst hy; exact hp

set_option maxRecDepth 100000 in
theorem named1_any {s : ByteArray} {w : World} (hT : Tb w) : Calls Tryd.prog 67 #[.string s] w fun e w' => e = .returned (.bool (!nameB s)) ∧ Bw w w' := by
  have HS := Lib.hid (split_any (s := s) hT)
  by_cases h0 : s.size = 0
  · obtain rfl : s = ⟨#[]⟩ := by
      have : s.data.size = 0 := h0
      obtain ⟨d⟩ := s
      simp at this
      simp [this]
    have hv : nameB ⟨#[]⟩ = false := by decide +kernel
    have he : spE ⟨#[]⟩ = 0 := by decide +kernel
    rw [he] at HS
    rw [hv]
    go_enter Tryd.func67, Tryd.ntmps67
    go_wp2_with ((with_reducible refine HS.out.mono ?_); rintro e w2 ⟨⟨v, a, rfl⟩, hb⟩)
    go_ret
    exact ⟨rfl, hb⟩
  · have hnl : ¬ s.toList = [] := fun e => h0 (by rw [Lib.size_eq, ← Lib.toList_data, e]; rfl)
    have hne : s.toList.isEmpty = false := by
      cases h : s.toList with
      | nil => exact absurd h hnl
      | cons _ _ => rfl
    by_cases hbig : 16384 < s.size
    · have hv : nameB s = false := by unfold nameB; simp; omega
      have he : spE s = 2 := by unfold spE; rw [if_pos hbig]
      rw [he] at HS
      rw [hv]
      go_enter Tryd.func67, Tryd.ntmps67
      go_wp2_with ((with_reducible refine HS.out.mono ?_); rintro e w2 ⟨⟨v, a, rfl⟩, hb⟩)
      go_ret
      exact ⟨rfl, hb⟩
    · have he := spE_ok (show s.size ≤ 16384 by omega)
      cases ho : okS s
      · have hv : nameB s = false := by unfold nameB; rw [ho]; simp
        rw [he, ho] at HS
        rw [hv]
        clear he ho hv
        go_enter Tryd.func67, Tryd.ntmps67
        go_wp2_with ((with_reducible refine HS.out.mono ?_); rintro e w2 ⟨⟨v, a, rfl⟩, hb⟩)
        go_ret
        exact ⟨rfl, hb⟩
      · rw [he, ho] at HS
        by_cases h40 : 40 < s.size
        · have hv : nameB s = false := by unfold nameB; simp; omega
          have h40' : (s.size : Int) > 40 := by omega
          rw [hv]
          clear he ho hv
          go_enter Tryd.func67, Tryd.ntmps67
          go_wp2_with ((with_reducible refine HS.out.mono ?_); rintro e w2 ⟨⟨v, a, rfl⟩, hb⟩)
          go_ret
          exact ⟨by first | rfl | (simp; try omega), hb⟩
        · have hv : nameB s = true := by unfold nameB; rw [ho]; simp; omega
          have h40' : ¬ (s.size : Int) > 40 := by omega
          rw [hv]
          clear he ho hv
          go_enter Tryd.func67, Tryd.ntmps67
          go_wp2_with ((with_reducible refine HS.out.mono ?_); rintro e w2 ⟨⟨v, a, rfl⟩, hb⟩)
          go_ret
          exact ⟨by first | rfl | (simp; try omega), hb⟩

theorem named_pr_any {v : Value} {l : List ByteArray} {w : World} (hT : Tb w) (h : Rd tStr w v l) :
    Calls Tryd.prog 50 #[v] w fun e w' => e = .returned (.bool (l.all nameB)) ∧ Bw w w' := by
  have ha : Asks tStr vOne 67 #[] w l (fun x => !nameB x) := by
    refine ⟨fun _ _ => by kernel_rfl, ?_⟩
    rintro x cs w2 hx hb ⟨rfl, hxs⟩
    exact named1_any (hT.after hb)
  have HC := Lib.hid (containsS_any h ha)
  have Hv : Hid ((!l.any fun x => !nameB x) = l.all nameB) := by show _ = _; rw [List.all_eq_not_any_not]
  clear ha h
  go_enter Tryd.func50, Tryd.ntmps50
  go_wp2_with ((with_reducible refine HC.out.mono ?_); rintro e w' ⟨rfl, hb⟩)
  go_ret
  exact ⟨ret_b Hv.out, hb⟩

theorem tags_any {v : Value} {l : List ByteArray} {w : World} (hT : Tb w) (h : Rd tStr w v l) :
    Calls Tryd.prog 49 #[v] w fun e w' => e = .returned (.bool (nmT nameB l 1 20)) ∧ Bw w w' := by
  have hm := h.len_le
  have HN := Lib.hid (named_pr_any hT h)
  obtain ⟨A, c, rfl, _, _⟩ := h.form
  have Hv : Hid (nmT nameB l 1 20 = (decide (1 ≤ l.length) && decide (l.length ≤ 20) && l.all nameB)) := rfl
  clear h
  generalize nmT nameB l 1 20 = R at *
  by_cases h1 : 1 ≤ l.length
  · have h1' : (l.length : Int) ≥ 1 := by omega
    by_cases h2 : l.length ≤ 20
    · have h2' : (l.length : Int) ≤ 20 := by omega
      have hR : Hid (l.all nameB = R) := by show _ = _; rw [Hv.out, decide_eq_true h1, decide_eq_true h2]; rfl
      generalize l.all nameB = q at *
      cases q
      all_goals
        go_enter Tryd.func49, Tryd.ntmps49
        go_wp2_with ((with_reducible refine HN.out.mono ?_); rintro e w' ⟨rfl, hb⟩)
        go_ret
        exact ⟨ret_b hR.out, hb⟩
    · have h2' : ¬ (l.length : Int) ≤ 20 := by omega
      have hR : Hid (false = R) := by show _ = _; rw [Hv.out, decide_eq_true h1, decide_eq_false h2]; rfl
      go_enter Tryd.func49, Tryd.ntmps49
      go_wp2_with fail
      go_ret
      exact ⟨ret_b hR.out, Below.refl _ _⟩
  · have h1' : ¬ (l.length : Int) ≥ 1 := by omega
    have hR : Hid (false = R) := by show _ = _; rw [Hv.out, decide_eq_false h1]; rfl
    go_enter Tryd.func49, Tryd.ntmps49
    go_wp2_with fail
    go_ret
    exact ⟨ret_b hR.out, Below.refl _ _⟩

set_option maxRecDepth 100000 in
theorem rtags_any {v : Value} {l : List ByteArray} {lo hi : Nat} {w : World} (h : Rd tStr w v l) :
    Calls Tryd.prog 62 #[v, .int .i64 lo, .int .i64 hi] w fun e w' => e = .returned (.bool (nmT nameB l lo hi)) ∧ Bw w w' := by
  have hm := h.len_le
  obtain ⟨A, c, rfl, _, _⟩ := h.form
  have Hv : Hid (nmT nameB l lo hi = (decide (lo ≤ l.length) && decide (l.length ≤ hi) && l.all nameB)) := rfl
  generalize nmT nameB l lo hi = R at *
  by_cases h1 : lo ≤ l.length
  · have h1' : ¬ (l.length : Int) < lo := by omega
    by_cases h2 : l.length ≤ hi
    · have h2' : ¬ (l.length : Int) > hi := by omega
      have hR : Hid (R = l.all nameB) := by show _ = _; rw [Hv.out, decide_eq_true h1, decide_eq_true h2]; rfl
      clear Hv
      go_enter Tryd.func62, Tryd.ntmps62
      go_wp2_with fail
      go_loopw [7] (fun i wr => ∃ k : Nat, k ≤ l.length ∧ i = .int .i64 k ∧ Bw w wr ∧ Pre k (fun j => ∀ y, l[j]? = some y → nameB y = true)) (fun i _ => l.length - (intOf i).toNat)
      case atStart => exact ⟨0, Nat.zero_le _, rfl, Below.refl _ _, Pre.zero⟩
      case round =>
        obtain ⟨k, hk, rfl, hd, hpre⟩ := hrel
        by_cases hlt : k < l.length
        · obtain ⟨b, off, y, rfl, hy, _, hc⟩ := (h.after hd).str hlt
          have HC := Lib.hid (named_any (s := y) (w := wr))
          cases q : nameB y <;> rw [q] at HC
          · have hb0 := Lib.hid (all_bad hy.out q)
            clear q
            go_wp2_with ((with_reducible refine HC.out.mono ?_); rintro e w' ⟨rfl, hb⟩)
            go_ret
            exact ⟨ret_b (hR.out.trans hb0.out).symm, hd.then hb⟩
          · have hq := Lib.hid q
            clear q
            go_wp2_with ((with_reducible refine HC.out.mono ?_); rintro e w' ⟨rfl, hb⟩)
            exact ⟨⟨k + 1, hlt, by go_num, hd.then hb, hpre.snoc (pre_one hy.out hq.out)⟩, by simp [intOf]; omega⟩
        · have hg := Lib.hid (all_good hlt hpre)
          go_wp2_with fail
          go_ret
          exact ⟨ret_b (hR.out.trans hg.out).symm, hd⟩
    · have h2' : (l.length : Int) > hi := by omega
      have hR : Hid (false = R) := by show _ = _; rw [Hv.out, decide_eq_true h1, decide_eq_false h2]; rfl
      go_enter Tryd.func62, Tryd.ntmps62
      go_wp2_with fail
      go_ret
      exact ⟨ret_b hR.out, Below.refl _ _⟩
  · have h1' : (l.length : Int) < lo := by omega
    have hR : Hid (false = R) := by show _ = _; rw [Hv.out, decide_eq_false h1]; rfl
    go_enter Tryd.func62, Tryd.ntmps62
    go_wp2_with fail
    go_ret
    exact ⟨ret_b hR.out, Below.refl _ _⟩

theorem rtags1_any {v : Value} {l : List ByteArray} {w : World} (h : Rd tStr w v l) :
    Calls Tryd.prog 62 #[v, .int .i64 1, .int .i64 20] w fun e w' => e = .returned (.bool (nmT nameB l 1 20)) ∧ Bw w w' := rtags_any (lo := 1) (hi := 20) h
theorem rtags0_any {v : Value} {l : List ByteArray} {w : World} (h : Rd tStr w v l) :
    Calls Tryd.prog 62 #[v, .int .i64 0, .int .i64 20] w fun e w' => e = .returned (.bool (nmT nameB l 0 20)) ∧ Bw w w' := rtags_any (lo := 0) (hi := 20) h

set_option maxRecDepth 100000 in
theorem rcoh_any {u : Value} {c : Coh} {w : World} (h : Rd tRdg w u c.2) :
    Calls Tryd.prog 53 #[.agg #[.string c.1, u]] w fun e w' => e = .returned (.bool (validC nameB c)) ∧ Bw w w' := by
  obtain ⟨fm, rs⟩ := c
  simp only at *
  have hm := h.len_le
  obtain ⟨A, cc, rfl, _, _⟩ := h.form
  have hb1 := bw_refl_al w (.cells #[.string fm, .slice A rs.length cc] 37)
  have HN := Lib.hid (named_any (s := fm) (w := w.alloc (.cells #[.string fm, .slice A rs.length cc] 37)))
  have Hv : Hid (validC nameB (fm, rs) = (nameB fm && decide (rs.length ≤ 30) && rs.all fun r => nmT nameB r 1 20)) := rfl
  generalize validC nameB (fm, rs) = R at *
  cases q : nameB fm <;> rw [q] at HN
  · have hR : Hid (false = R) := by show _ = _; rw [Hv.out, q]; rfl
    clear q
    go_enter Tryd.func53, Tryd.ntmps53
    go_wp2_with ((with_reducible refine HN.out.mono ?_); rintro e w' ⟨rfl, hb⟩)
    go_ret
    exact ⟨ret_b hR.out, hb1.then hb⟩
  · by_cases h2 : rs.length ≤ 30
    · have h2' : ¬ (30 : Int) < rs.length := by omega
      have h2'' : decide ((30 : Int) < rs.length) = false := decide_eq_false h2'
      have hR : Hid (R = rs.all fun r => nmT nameB r 1 20) := by show _ = _; rw [Hv.out, q, decide_eq_true h2]; rfl
      clear q Hv
      go_enter Tryd.func53, Tryd.ntmps53
      go_wp2_with ((with_reducible refine HN.out.mono ?_); rintro e w1 ⟨rfl, hb⟩; have hc1 : w1.cell? ⟨w.heap.size, 1, none⟩ = some (.slice A rs.length cc) := bw_cell hb (by go_simp))
      go_loopw [3] (fun i wr => ∃ k : Nat, k ≤ rs.length ∧ i = .int .i64 k ∧ Bw w1 wr ∧ Pre k (fun j => ∀ y, rs[j]? = some y → nmT nameB y 1 20 = true)) (fun i _ => rs.length - (intOf i).toNat)
      case atStart => exact ⟨0, Nat.zero_le _, rfl, Below.refl _ _, Pre.zero⟩
      case round =>
        obtain ⟨k, hk, rfl, hd, hpre⟩ := hrel
        have hbw := (hb1.then hb).then hd
        have hc2 := bw_cell hd hc1
        by_cases hlt : k < rs.length
        · obtain ⟨b, off, y, u, rfl, hy, hyr, hc⟩ := lookR (h.after hbw) hlt
          obtain ⟨u', e, hyu⟩ := rep_rdg hyr
          injection e with e; subst e
          have HC := Lib.hid (rtags1_any hyu.rd)
          clear hyr hyu h
          cases q : nmT nameB y 1 20 <;> rw [q] at HC
          · have hb0 := Lib.hid (all_bad (p := fun r => nmT nameB r 1 20) hy.out q)
            clear q
            go_wp2_with ((with_reducible refine HC.out.mono ?_); rintro e w' ⟨rfl, hb⟩)
            go_ret
            exact ⟨ret_b (hR.out.trans hb0.out).symm, hbw.then hb⟩
          · have hq := Lib.hid q
            clear q
            go_wp2_with ((with_reducible refine HC.out.mono ?_); rintro e w' ⟨rfl, hb⟩)
            exact ⟨⟨k + 1, hlt, by go_num, hd.then hb, hpre.snoc (pre_one (p := fun r => nmT nameB r 1 20) hy.out hq.out)⟩, by simp [intOf]; omega⟩
        · have hg := Lib.hid (all_good (p := fun r => nmT nameB r 1 20) hlt hpre)
          go_wp2_with fail
          go_ret
          exact ⟨ret_b (hR.out.trans hg.out).symm, hbw⟩
    · have h2' : (30 : Int) < rs.length := by omega
      have hR : Hid (false = R) := by show _ = _; rw [Hv.out, q, decide_eq_false h2]; rfl
      clear q
      go_enter Tryd.func53, Tryd.ntmps53
      go_wp2_with ((with_reducible refine HN.out.mono ?_); rintro e w1 ⟨rfl, hb⟩; have hc1 : w1.cell? ⟨w.heap.size, 1, none⟩ = some (.slice A rs.length cc) := bw_cell hb (by go_simp))
      go_ret
      exact ⟨ret_b hR.out, hb1.then hb⟩

set_option maxRecDepth 100000 in
theorem rvalid_any {v : Value} {l : List Coh} {w : World} (h : Rd tCoh w v l) :
    Calls Tryd.prog 38 #[v] w fun e w' => e = .returned (.bool (validL nameB l)) ∧ Bw w w' := by
  have hm := h.len_le
  obtain ⟨A, c, rfl, _, _⟩ := h.form
  have Hv : Hid (validL nameB l = (decide (l.length ≤ 200) && l.all (validC nameB))) := rfl
  generalize validL nameB l = R at *
  by_cases h2 : l.length ≤ 200
  · have h2' : ¬ (l.length : Int) > 200 := by omega
    have hR : Hid (R = l.all (validC nameB)) := by show _ = _; rw [Hv.out, decide_eq_true h2]; rfl
    clear Hv
    go_enter Tryd.func38, Tryd.ntmps38
    go_wp2_with fail
    go_loopw [3] (fun i wr => ∃ k : Nat, k ≤ l.length ∧ i = .int .i64 k ∧ Bw w wr ∧ Pre k (fun j => ∀ y, l[j]? = some y → validC nameB y = true)) (fun i _ => l.length - (intOf i).toNat)
    case atStart => exact ⟨0, Nat.zero_le _, rfl, Below.refl _ _, Pre.zero⟩
    case round =>
      obtain ⟨k, hk, rfl, hd, hpre⟩ := hrel
      by_cases hlt : k < l.length
      · obtain ⟨b, off, y, u, rfl, hy, _, hyu, hc0, hc1⟩ := (h.after hd).coh hlt
        have HC := Lib.hid (rcoh_any (c := y) hyu.rd)
        clear hyu h
        cases q : validC nameB y <;> rw [q] at HC
        · have hb0 := Lib.hid (all_bad hy.out q)
          clear q
          go_wp2_with ((with_reducible refine HC.out.mono ?_); rintro e w' ⟨rfl, hb⟩)
          go_ret
          exact ⟨ret_b (hR.out.trans hb0.out).symm, hd.then hb⟩
        · have hq := Lib.hid q
          clear q
          go_wp2_with ((with_reducible refine HC.out.mono ?_); rintro e w' ⟨rfl, hb⟩)
          exact ⟨⟨k + 1, hlt, by go_num, hd.then hb, hpre.snoc (pre_one hy.out hq.out)⟩, by simp [intOf]; omega⟩
      · have hg := Lib.hid (all_good hlt hpre)
        go_wp2_with fail
        go_ret
        exact ⟨ret_b (hR.out.trans hg.out).symm, hd⟩
  · have h2' : (l.length : Int) > 200 := by omega
    have hR : Hid (false = R) := by show _ = _; rw [Hv.out, decide_eq_false h2]; rfl
    go_enter Tryd.func38, Tryd.ntmps38
    go_wp2_with fail
    go_ret
    exact ⟨ret_b hR.out, Below.refl _ _⟩
end Go.Proofs.YthecmbmidoagaaaDoor

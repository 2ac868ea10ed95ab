/- The walk of the statement SymbolsBack. -/
import Derived.Test.YtfdmpbihepkjnaaDoorSF
namespace Go.Proofs.YtfdmpbihepkjnaaDoor
open Go.RowKit Go.Maps
open Pl

/-- The text of what Tokens returns. -/
theorem back1 {t : List ByteArray} {x : ByteArray} {l : List Int} {z : Int} (h : tok vT t x = (l, z, 0)) : txt vT t l = (x, 0) := by
  unfold tok at h
  by_cases h1 : vT t = false
  · rw [if_pos h1] at h; injection h with _ h; injection h with _ h; cases h
  · rw [if_neg h1] at h
    by_cases h2 : 16384 < x.size
    · rw [if_pos h2] at h; injection h with _ h; injection h with _ h; cases h
    · rw [if_neg h2] at h
      obtain ⟨k1, k2, k3⟩ := tok_text t x x.size 0 [] l z (by omega) (Nat.zero_le _) (by simp [catL]) (by simp) h
      have hv : vT t = true := by simpa using h1
      unfold txt wordB
      rw [hv, decide_eq_true k3, allR_true (fun j hj => k2 _ (List.mem_of_getElem? (show l[j]? = some (l.getD j 0) by rw [List.getD_eq_getElem?_getD, List.getElem?_eq_getElem hj]; rfl))), cat_catL t l l.length (Nat.le_refl _), List.take_length, k1]
      rfl
/-- The tokens of what Text returns. -/
theorem back2 {t : List ByteArray} {w : List Int} {s : ByteArray} (h : txt vT t w = (s, 0)) (hb : begB t = false) : tok vT t s = (w, 0, 0) := by
  unfold txt at h
  by_cases h1 : (vT t && wordB t w) = true
  · rw [if_pos h1] at h
    injection h with h _
    rw [Bool.and_eq_true] at h1
    obtain ⟨hv, hw⟩ := h1
    unfold wordB at hw
    rw [Bool.and_eq_true, decide_eq_true_eq, allR_iff] at hw
    have hcl := cat_len (t := t) (x := w) (fun y hy => (vT_names hv y hy).2) w.length
    rw [cat_catL t w w.length (Nat.le_refl _), List.take_length] at h hcl
    have hsz : s.size = (catL t w).length := by rw [← h]; simp [ByteArray.size]
    have := text_tok (fun y hy => (vT_names hv y hy).1) hw.2 hb w.length 0 s.size (by omega) (by rw [hsz]; omega)
    unfold tok
    rw [if_neg (by rw [hv]; simp), if_neg (by omega)]
    rw [h] at this
    simp only [List.take_zero, catL, List.flatMap_nil, List.length_nil] at this
    rw [this]
    unfold fin
    rw [if_neg (by omega)]
  · rw [if_neg h1] at h
    injection h with _ h; cases h

theorem tkr0 {w w' : World} {l : List Int} {z e0 : Int} {e : Ending} (h : TkR w (l, z, e0) e w') : ∃ u, e = .returned (.tuple #[u, .int .i64 z, .int .i64 e0]) ∧ Bw w w' ∧ Sl tInt w' (Hi w.heap.size) u l := h
theorem txr0 {w w' : World} {s : ByteArray} {e0 : Int} {e : Ending} (h : TxR w (s, e0) e w') : e = .returned (.tuple #[.string s, .int .i64 e0]) ∧ Bw w w' := h

set_option maxRecDepth 100000 in
set_option maxHeartbeats 8000000 in
theorem back_walk {v u : Value} {t : List ByteArray} {x : ByteArray} {y : List Int} {w : World} (hT : Tb w) (h : Rd tStr w v t) (hy : Rd tInt w u y) :
    Calls Tryd.prog 6 #[v, .string x, u] w fun e w' => e = .returned (.bool true) ∧ Bw w w' := by
  have H1 := Lib.hid (tokens_any (x := x) hT h)
  have HTk := Lib.hid (fun (s : ByteArray) (w' : World) (k : Bw w w') => tokens_any (x := s) (hT.after k) (h.after k))
  have HTx := Lib.hid (fun (z : Value) (l : List Int) (w' : World) (k : Bw w w') (q : Rd tInt w' z l) => text_any (hT.after k) (h.after k) q)
  have HB := Lib.hid (fun (w' : World) (k : Bw w w') => begins_any (h.after k))
  have hy0 := Lib.hid hy
  obtain ⟨A, ca, rfl, _, _⟩ := h.form
  obtain ⟨B, cb, rfl, _, _⟩ := hy.form
  clear h hy
  by_cases h1 : 100 < t.length
  · go_enter Tryd.func6, Tryd.ntmps6
    go_wp2_with fail
    refine (awake_any hT).mono ?_
    rintro e w2 ⟨rfl, hb2⟩
    go_wp2_with fail
    go_ret
    exact ⟨rfl, hb2⟩
  by_cases h2 : 20000 < x.size
  · go_enter Tryd.func6, Tryd.ntmps6
    go_wp2_with fail
    refine (awake_any hT).mono ?_
    rintro e w2 ⟨rfl, hb2⟩
    go_wp2_with fail
    go_ret
    exact ⟨rfl, hb2⟩
  by_cases h3 : 300 < y.length
  · go_enter Tryd.func6, Tryd.ntmps6
    go_wp2_with fail
    refine (awake_any hT).mono ?_
    rintro e w2 ⟨rfl, hb2⟩
    go_wp2_with fail
    go_ret
    exact ⟨rfl, hb2⟩
  -- the second half, from whatever world
  have e1 := str_eq x
  generalize hr : tok vT t x = r at *
  obtain ⟨l, z, e0⟩ := r
  generalize hq : txt vT t y = q
  obtain ⟨s, e2⟩ := q
  have HTy := Lib.hid (fun (w' : World) (k : Bw w w') => HTx.out _ _ w' k (hy0.out.after k))
  rw [hq] at HTy
  by_cases c1 : e0 = 0
  · subst c1
    have hbk := back1 hr
    have HT1 := Lib.hid (fun (zv : Value) (w' : World) (k : Bw w w') (q : Rd tInt w' zv l) => HTx.out zv l w' k q)
    rw [hbk] at HT1
    clear hr hbk
    by_cases c2 : e2 = 0
    · subst c2
      cases c3 : begB t
      · have hb2 := back2 hq c3
        have HT2 := Lib.hid (fun (w' : World) (k : Bw w w') => HTk.out s w' k)
        rw [hb2] at HT2
        rw [c3] at HB
        have hS : same y y = true := by simp [same]
        clear hq c3 hb2 HTk
        go_enter Tryd.func6, Tryd.ntmps6
        go_wp2_with fail
        refine H1.out.mono ?_
        intro e w2 hh
        obtain ⟨u1, rfl, hb1, hu1⟩ := tkr0 hh
        go_wp2_with fail
        refine (HT1.out u1 _ hb1 hu1.rd).mono ?_
        intro e w3 hh
        obtain ⟨rfl, hb3⟩ := txr0 hh
        have hb13 := hb1.then hb3
        go_wp2_with fail
        refine (HTy.out _ hb13).mono ?_
        intro e w4 hh
        obtain ⟨rfl, hb4⟩ := txr0 hh
        have hb14 := hb13.then hb4
        go_wp2_with fail
        refine (HB.out _ hb14).mono ?_
        rintro e w5 ⟨rfl, hd⟩
        have hb15 := hb14.then hd.bw
        go_wp2_with fail
        refine (HT2.out _ hb15).mono ?_
        intro e w6 hh
        obtain ⟨u2, rfl, hb6, hu2⟩ := tkr0 hh
        have hb16 := hb15.then hb6
        have H7 := Lib.hid (val_of (congrArg Value.bool hS) (sameInts_any (hy0.out.after hb16) hu2.rd))
        go_wp2_with fail
        refine H7.out.mono ?_
        rintro e w7 ⟨rfl, hd2⟩
        have hb17 := hb16.then hd2.bw
        go_wp2_with fail
        refine (awake_any (hT.after hb17)).mono ?_
        rintro e w8 ⟨rfl, hb8⟩
        go_wp2_with fail
        go_ret
        exact ⟨rfl, hb17.then hb8⟩
      · rw [c3] at HB
        clear hq c3 HTk
        go_enter Tryd.func6, Tryd.ntmps6
        go_wp2_with fail
        refine H1.out.mono ?_
        intro e w2 hh
        obtain ⟨u1, rfl, hb1, hu1⟩ := tkr0 hh
        go_wp2_with fail
        refine (HT1.out u1 _ hb1 hu1.rd).mono ?_
        intro e w3 hh
        obtain ⟨rfl, hb3⟩ := txr0 hh
        have hb13 := hb1.then hb3
        go_wp2_with fail
        refine (HTy.out _ hb13).mono ?_
        intro e w4 hh
        obtain ⟨rfl, hb4⟩ := txr0 hh
        have hb14 := hb13.then hb4
        go_wp2_with fail
        refine (HB.out _ hb14).mono ?_
        rintro e w5 ⟨rfl, hd⟩
        have hb15 := hb14.then hd.bw
        go_wp2_with fail
        refine (awake_any (hT.after hb15)).mono ?_
        rintro e w8 ⟨rfl, hb8⟩
        go_wp2_with fail
        go_ret
        exact ⟨rfl, hb15.then hb8⟩
    · clear hq HTk HB
      go_enter Tryd.func6, Tryd.ntmps6
      go_wp2_with fail
      refine H1.out.mono ?_
      intro e w2 hh
      obtain ⟨u1, rfl, hb1, hu1⟩ := tkr0 hh
      go_wp2_with fail
      refine (HT1.out u1 _ hb1 hu1.rd).mono ?_
      intro e w3 hh
      obtain ⟨rfl, hb3⟩ := txr0 hh
      have hb13 := hb1.then hb3
      go_wp2_with fail
      refine (HTy.out _ hb13).mono ?_
      intro e w4 hh
      obtain ⟨rfl, hb4⟩ := txr0 hh
      have hb14 := hb13.then hb4
      go_wp2_with fail
      refine (awake_any (hT.after hb14)).mono ?_
      rintro e w8 ⟨rfl, hb8⟩
      go_wp2_with fail
      go_ret
      exact ⟨rfl, hb14.then hb8⟩
  · clear hr HTx
    by_cases c2 : e2 = 0
    · subst c2
      cases c3 : begB t
      · have hb2 := back2 hq c3
        have HT2 := Lib.hid (fun (w' : World) (k : Bw w w') => HTk.out s w' k)
        rw [hb2] at HT2
        rw [c3] at HB
        have hS : same y y = true := by simp [same]
        clear hq c3 hb2 HTk
        go_enter Tryd.func6, Tryd.ntmps6
        go_wp2_with fail
        refine H1.out.mono ?_
        intro e w2 hh
        obtain ⟨u1, rfl, hb13, hu1⟩ := tkr0 hh
        go_wp2_with fail
        refine (HTy.out _ hb13).mono ?_
        intro e w4 hh
        obtain ⟨rfl, hb4⟩ := txr0 hh
        have hb14 := hb13.then hb4
        go_wp2_with fail
        refine (HB.out _ hb14).mono ?_
        rintro e w5 ⟨rfl, hd⟩
        have hb15 := hb14.then hd.bw
        go_wp2_with fail
        refine (HT2.out _ hb15).mono ?_
        intro e w6 hh
        obtain ⟨u2, rfl, hb6, hu2⟩ := tkr0 hh
        have hb16 := hb15.then hb6
        have H7 := Lib.hid (val_of (congrArg Value.bool hS) (sameInts_any (hy0.out.after hb16) hu2.rd))
        go_wp2_with fail
        refine H7.out.mono ?_
        rintro e w7 ⟨rfl, hd2⟩
        have hb17 := hb16.then hd2.bw
        go_wp2_with fail
        refine (awake_any (hT.after hb17)).mono ?_
        rintro e w8 ⟨rfl, hb8⟩
        go_wp2_with fail
        go_ret
        exact ⟨rfl, hb17.then hb8⟩
      · rw [c3] at HB
        clear hq c3 HTk
        go_enter Tryd.func6, Tryd.ntmps6
        go_wp2_with fail
        refine H1.out.mono ?_
        intro e w2 hh
        obtain ⟨u1, rfl, hb13, hu1⟩ := tkr0 hh
        go_wp2_with fail
        refine (HTy.out _ hb13).mono ?_
        intro e w4 hh
        obtain ⟨rfl, hb4⟩ := txr0 hh
        have hb14 := hb13.then hb4
        go_wp2_with fail
        refine (HB.out _ hb14).mono ?_
        rintro e w5 ⟨rfl, hd⟩
        have hb15 := hb14.then hd.bw
        go_wp2_with fail
        refine (awake_any (hT.after hb15)).mono ?_
        rintro e w8 ⟨rfl, hb8⟩
        go_wp2_with fail
        go_ret
        exact ⟨rfl, hb15.then hb8⟩
    · clear hq HTk HB
      go_enter Tryd.func6, Tryd.ntmps6
      go_wp2_with fail
      refine H1.out.mono ?_
      intro e w2 hh
      obtain ⟨u1, rfl, hb13, hu1⟩ := tkr0 hh
      go_wp2_with fail
      refine (HTy.out _ hb13).mono ?_
      intro e w4 hh
      obtain ⟨rfl, hb4⟩ := txr0 hh
      have hb14 := hb13.then hb4
      go_wp2_with fail
      refine (awake_any (hT.after hb14)).mono ?_
      rintro e w8 ⟨rfl, hb8⟩
      go_wp2_with fail
      go_ret
      exact ⟨rfl, hb14.then hb8⟩
end Go.Proofs.YtfdmpbihepkjnaaDoor

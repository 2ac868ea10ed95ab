/- The walk of the statement HyphenOnsets. -/
import Derived.Test.YtockfkmemoggiaaSJ
import Derived.Test.YtockfkmemoggiaaPlain4
import Derived.Deep.RegionHeld3
namespace Go.Proofs.Ytockfkmemoggiaa
open Go.RowKit
open Pl

/-- Data of kind T, whose blocks lie where P says. -/
def tLo {α : Type} (T : Ty α) (P : Nat → Prop) : Ty α where
  size := T.size
  rep := fun w D cs a => T.rep w (fun b => D b ∧ P b) cs a
  pos := T.pos
  len := fun h => T.len h
  one := fun h => T.one h
  keep := fun h hk => T.keep h fun b hb => ⟨⟨(hk b hb.1).1, hb.2⟩, (hk b hb.1).2⟩
  lt := fun h => T.keep (T.lt h) fun _ hb => ⟨⟨⟨hb.1.1, hb.2⟩, hb.1.2⟩, rfl⟩

section
variable {α : Type} {T : Ty α} {P : Nat → Prop} {w w' : World} {D : Nat → Prop} {v : Value} {xs : List α} {e : TypeId} {base : Nat}
theorem Sl.lo (h : Sl T w D v xs) (hP : ∀ b, D b → P b) : Sl (tLo T P) w D v xs := by
  obtain ⟨A, c, h1, h2, h3, h4⟩ := h
  refine ⟨A, c, h1, h2, h3, ?_⟩
  rcases h4 with h | ⟨b, off, hA, hD, hx⟩
  · exact .inl h
  · exact .inr ⟨b, off, hA, hD, fun j x hj => by
      obtain ⟨cs, q1, q2⟩ := hx j x hj
      exact ⟨cs, T.keep q1 fun b hb => ⟨⟨hb, hP b hb⟩, rfl⟩, q2⟩⟩
theorem Sl.unlo (h : Sl (tLo T P) w D v xs) : Sl T w D v xs := by
  obtain ⟨A, c, h1, h2, h3, h4⟩ := h
  refine ⟨A, c, h1, h2, h3, ?_⟩
  rcases h4 with h | ⟨b, off, hA, hD, hx⟩
  · exact .inl h
  · exact .inr ⟨b, off, hA, hD, fun j x hj => by
      obtain ⟨cs, q1, q2⟩ := hx j x hj
      exact ⟨cs, T.keep q1 fun b hb => ⟨hb.1, rfl⟩, q2⟩⟩
/-- Kept over a change of a block where no datum lies. -/
theorem Acc.lo_grown (h : Acc (tLo T P) e w base v xs) {row : Option Nat} (hg : w.grownBy w' row) (hr : v.ownBlock = none ∨ v.ownBlock ≠ row) (hrow : ∀ g, row = some g → ¬ P g) : Acc (tLo T P) e w' base v xs := by
  obtain ⟨css, h1, h2, h3⟩ := h
  exact ⟨css, h1.kept hg hr, h2, fun j x cs hj hc => T.keep (T.lt (h3 j x cs hj hc)) fun b hb => ⟨hb.1, hg.block b hb.2 (fun e => hrow b e.symm hb.1.2)⟩⟩
end

theorem three_setCell {w : World} {g : Nat} {a b c u : Value} {t : TypeId} (h : w.heap[g]? = some (.cells #[a, b, c] t (0, 0))) : (w.setCell ⟨g, 2, none⟩ u).heap[g]? = some (.cells #[a, b, u] t (0, 0)) := by
  have hlt : g < w.heap.size := (Array.getElem?_eq_some_iff.1 h).1
  have h' : w.heap[g] = .cells #[a, b, c] t (0, 0) := by simpa [Array.getElem?_eq_getElem hlt] using h
  show (w.heap.modify g _)[g]? = _
  rw [Array.getElem?_eq_getElem (by simpa using hlt), Array.getElem_modify_self, h']
  rfl
theorem grown_setCell (w : World) (a : Addr) (u : Value) : w.grownBy (w.setCell a u) (some a.block) :=
  ⟨rfl, rfl, rfl, by simp [World.setCell], fun k _ hk => Below.heap_setCell w a u k (fun e => hk (by rw [e]))⟩
theorem sz_alloc (w : World) (o : Obj) : (w.alloc o).heap.size = w.heap.size + 1 := by simp
theorem own_sl {g n c : Nat} {k : Nat} (h : (Value.slice (some ⟨g, 0, none⟩) n c).ownBlock = some k) : g = k := by injection h
/-- What a slice that shares no block of P leads to. -/
theorem lo_free {α : Type} {T : Ty α} {P : Nat → Prop} {w : World} {D : Nat → Prop} {v : Value} (hg : ∀ g, v.ownBlock = some g → ¬ P g) : ∀ x cs, (tLo T P).rep w D cs x → (tLo T P).rep w (fun b => 0 ≤ b ∧ some b ≠ v.ownBlock) cs x :=
  fun _ _ h => T.keep h fun b hb => ⟨⟨⟨Nat.zero_le _, fun e => hg b e.symm hb.2⟩, hb.2⟩, rfl⟩

set_option maxRecDepth 100000 in
set_option maxHeartbeats 4000000 in
theorem onsets_walk {a b c u v : Value} {s : Snd} {o x : List Int} {w : World} (h : SndR w a b c s) (ho : Rd tInt w u o) (hx : Rd tInt w v x) :
    Calls Try.prog 5 #[.agg #[a, b, c], u, v] w fun e w' => e = .returned (.bool true) ∧ Bw w w' := by
  obtain ⟨i2, hi2, hy0, hy1, hy2⟩ := info_parts infoS
  have hB : Bw w (w.alloc (.cells #[a, b, c] 25)) := (Below.refl _ _).alloc (Nat.le_refl _) _
  have hs0 := h.alloc (.cells #[a, b, c] 25)
  have hx0 := hx.alloc (.cells #[a, b, c] 25)
  have ho0 := ho.alloc (.cells #[a, b, c] 25)
  have HL := Lib.hid (large_any hs0)
  obtain ⟨A, cc, rfl, _, _⟩ := hx.form
  obtain ⟨O, oc, rfl, _, _⟩ := ho.form
  obtain ⟨A1, c1, rfl, _, _⟩ := h.vow.form
  obtain ⟨A2, c2, rfl, _, _⟩ := h.con.form
  obtain ⟨A3, c3, rfl, _, _⟩ := h.ons.form
  clear h hx ho
  cases hl : largeB s
  · have Hl := Lib.hid hl
    clear hl
    by_cases h3 : 300 < x.length
    · go_enter Try.func5, Try.ntmps5
      go_wp2_with fail
      refine (val_of (congrArg Value.bool Hl.out) HL.out).mono ?_
      rintro e w1 ⟨rfl, hb1⟩
      go_wp2_with fail
      refine awake_any.mono ?_
      rintro e w2 ⟨rfl, hb2⟩
      go_wp2_with fail
      go_ret
      exact ⟨rfl, (hB.then hb1).then hb2⟩
    · by_cases h20 : 20 < o.length
      · go_enter Try.func5, Try.ntmps5
        go_wp2_with fail
        refine (val_of (congrArg Value.bool Hl.out) HL.out).mono ?_
        rintro e w1 ⟨rfl, hb1⟩
        go_wp2_with fail
        refine awake_any.mono ?_
        rintro e w2 ⟨rfl, hb2⟩
        go_wp2_with fail
        go_ret
        exact ⟨rfl, (hB.then hb1).then hb2⟩
      · go_enter Try.func5, Try.ntmps5
        go_wp2_with fail
        refine (val_of (congrArg Value.bool Hl.out) HL.out).mono ?_
        rintro e w1 ⟨rfl, hb1⟩
        obtain ⟨p0, p1, p2⟩ := box3 hb1
        have hons : s.ons.length ≤ 60 := by
          have := Hl.out
          unfold largeB at this
          simp at this
          omega
        have hWA := bw_al (bw_al hb1 (.cells #[.slice A1 s.vow.length c1, .slice A2 s.con.length c2, .slice A3 s.ons.length c3] 25)) (.cells #[] 22)
        have p3 := (box3 hWA).2.2
        have hE : Acc (tLo (tSlice tInt) (· < (w.alloc (.cells #[.slice A1 s.vow.length c1, .slice A2 s.con.length c2, .slice A3 s.ons.length c3] 25)).heap.size)) 22
            ((w1.alloc (.cells #[.slice A1 s.vow.length c1, .slice A2 s.con.length c2, .slice A3 s.ons.length c3] 25)).alloc (.cells #[] 22)) 0 (.slice (some ⟨w1.heap.size + 1, 0, none⟩) 0 0) [] :=
          Acc.made (Nat.zero_le _) (at_new (by rw [sz_alloc])) (Nat.zero_le _) rfl
        have hO := (hs0.ons.lo (P := (· < (w.alloc (.cells #[.slice A1 s.vow.length c1, .slice A2 s.con.length c2, .slice A3 s.ons.length c3] 25)).heap.size)) (fun b hb => hb)).below hWA (fun b hb => hb)
        have hsz : (w.alloc (.cells #[.slice A1 s.vow.length c1, .slice A2 s.con.length c2, .slice A3 s.ons.length c3] 25)).heap.size ≤ w1.heap.size := hb1.size
        have hoE : ∀ g, (Value.slice (some ⟨w1.heap.size + 1, 0, none⟩) 0 0).ownBlock = some g → w1.heap.size + 1 ≤ g := fun g e => by have := own_sl e; omega
        have hsA : ((w1.alloc (.cells #[.slice A1 s.vow.length c1, .slice A2 s.con.length c2, .slice A3 s.ons.length c3] 25)).alloc (.cells #[] 22)).heap.size = w1.heap.size + 2 := by rw [sz_alloc, sz_alloc]
        have hgA : ((w1.alloc (.cells #[.slice A1 s.vow.length c1, .slice A2 s.con.length c2, .slice A3 s.ons.length c3] 25)).alloc (.cells #[] 22)).heap[w1.heap.size]? = some (.cells #[.slice A1 s.vow.length c1, .slice A2 s.con.length c2, .slice A3 s.ons.length c3] 25 (0, 0)) := at_old (at_new rfl)
        go_wp2_with (at_builtin; first
          | (refine wpList_app_sl rfl _ _ rfl Try.underlying23 hi2 hy0 hy1 hy2 rfl rfl hE rfl hO (lo_free fun g e => by have := hoE g e; omega) (by simp [maxLen]; omega) (by simp; omega) (Nat.zero_le _) ?_
             intro v1 w5 hA1 hg1 hat1
             rw [List.nil_append] at hA1
             have ho1 : ∀ g, v1.ownBlock = some g → w1.heap.size + 1 ≤ g := fun g e => by
               rcases hat1 with k | k
               · exact hoE g (k ▸ e)
               · rw [k] at e; injection e with e; omega
             have hb5 := Acc.bw hWA hg1 hoE (by omega)
             have hg5 : w5.heap[w1.heap.size]? = some (.cells #[.slice A1 s.vow.length c1, .slice A2 s.con.length c2, .slice A3 s.ons.length c3] 25 (0, 0)) := (hg1.block _ (by omega) (fun e => by have := hoE _ e.symm; omega)).trans hgA
             have hz5 := hg1.size
             have hA1' := hA1.alloc (.cells #[.slice O o.length oc] 22)
             have hb5' := bw_al hb5 (.cells #[.slice O o.length oc] 22)
             have hg5' := at_old (o := .cells #[.slice O o.length oc] 22) hg5
             have hsz5 : (w5.alloc (.cells #[.slice O o.length oc] 22)).heap.size = w5.heap.size + 1 := sz_alloc _ _
             have hw1 : (tLo (tSlice tInt) (· < (w.alloc (.cells #[.slice A1 s.vow.length c1, .slice A2 s.con.length c2, .slice A3 s.ons.length c3] 25)).heap.size)).rep (w5.alloc (.cells #[.slice O o.length oc] 22)) (fun b => 0 ≤ b ∧ some b ≠ v1.ownBlock) [.slice O o.length oc] o :=
               ⟨_, rfl, ho0.keep fun b hb => ⟨⟨⟨Nat.zero_le _, fun e => by have := ho1 b e.symm; omega⟩, hb⟩, hb5'.block b hb⟩⟩)
          | (refine wpList_app_one rfl _ _ rfl Try.underlying23 hi2 hy0 hy1 hy2 rfl rfl hA1' rfl (at_new rfl) hw1 (by simp [maxLen]; omega) (by omega) (Nat.zero_le _) ?_
             intro v2 w6 hA2 hg2 hat2
             have ho2 : ∀ g, v2.ownBlock = some g → w1.heap.size + 1 ≤ g := fun g e => by
               rcases hat2 with k | k
               · exact ho1 g (k ▸ e)
               · rw [k] at e; injection e with e; omega
             have hb6 := Acc.bw hb5' hg2 ho1 (by omega)
             have hg6 : w6.heap[w1.heap.size]? = some (.cells #[.slice A1 s.vow.length c1, .slice A2 s.con.length c2, .slice A3 s.ons.length c3] 25 (0, 0)) := (hg2.block _ (by omega) (fun e => by have := ho1 _ e.symm; omega)).trans hg5'
             have f6 := frozen_of_cells (i := 2) hg6
             have c6 : w6.cell? ⟨w1.heap.size, 2, none⟩ = some (.slice A3 s.ons.length c3) := cell_of_row w6 _ 2 _ 25 (0, 0) hg6
             have hb7 := hb6.setCell (p := ⟨w1.heap.size, 2, none⟩) hsz v2
             have hg7 := three_setCell (u := v2) hg6
             have hn2 : v2.ownBlock = none ∨ v2.ownBlock ≠ some w1.heap.size := by
               cases hv : v2.ownBlock with
               | none => exact .inl rfl
               | some g => exact .inr fun e => by have := ho2 g hv; injection e with e; omega
             have hons7 := ((hA2.lo_grown (grown_setCell w6 ⟨w1.heap.size, 2, none⟩ v2) hn2 (fun g e => by injection e with e; subst e; exact Nat.not_lt.2 hsz)).sl.rd).unlo
             obtain ⟨A5, c5, hv5, _, _⟩ := hA2.form
             generalize hn5 : (s.ons ++ [o]).length = n5 at hv5
             subst hv5
             obtain ⟨q0, q1, q2⟩ := box3 hb7
             have H9 := Lib.hid (syllables_any (hs0.after hb7) (hx0.after hb7))))
        refine H9.out.mono ?_
        rintro e w8 hr
        have hg8 : Bw (w6.setCell ⟨w1.heap.size, 2, none⟩ (.slice A5 n5 c5)) w8 → w8.heap[w1.heap.size]? = some (.cells #[.slice A1 s.vow.length c1, .slice A2 s.con.length c2, .slice A5 n5 c5] 25 (0, 0)) :=
          fun hb => (hb.block _ (Array.getElem?_eq_some_iff.1 hg7).1).trans hg7
        cases hok : okB s x
        · obtain ⟨u1, rfl, hb8, _⟩ := syN hr hok
          have k8 := hg8 hb8
          have q3 := cell_of_row w8 _ 0 _ 25 (0, 0) k8
          have q4 := cell_of_row w8 _ 1 _ 25 (0, 0) k8
          have q5 := cell_of_row w8 _ 2 _ 25 (0, 0) k8
          have hb78 := Bw.then hb7 hb8
          have H10 := Lib.hid (syllables_any (s := ⟨s.vow, s.con, s.ons ++ [o]⟩) ⟨(hs0.after hb78).vow, (hs0.after hb78).con, hons7.after hb8⟩ (hx0.after hb78))
          clear hr hok hg8 H9 p0 p1 p2 p3 q0 q1 q2
          go_wp2_with fail
          refine H10.out.mono ?_
          rintro e w9 ⟨u2, rfl, hb9, _⟩
          generalize (if okB ⟨s.vow, s.con, s.ons ++ [o]⟩ x = true then (0 : Int) else 1) = E2
          go_wp2_with fail
          refine awake_any.mono ?_
          rintro e w10 ⟨rfl, hb10⟩
          go_wp2_with fail
          go_ret
          exact ⟨rfl, hB.then ((hb78.then hb9).then hb10)⟩
        · obtain ⟨u1, rfl, hb8, hu1⟩ := sy0 hr hok
          have k8 := hg8 hb8
          have q3 := cell_of_row w8 _ 0 _ 25 (0, 0) k8
          have q4 := cell_of_row w8 _ 1 _ 25 (0, 0) k8
          have q5 := cell_of_row w8 _ 2 _ 25 (0, 0) k8
          have hb78 := Bw.then hb7 hb8
          have H10 := Lib.hid (syllables_any (s := ⟨s.vow, s.con, s.ons ++ [o]⟩) ⟨(hs0.after hb78).vow, (hs0.after hb78).con, hons7.after hb8⟩ (hx0.after hb78))
          have Hok := Lib.hid hok
          clear hr hok hg8 H9 p0 p1 p2 p3 q0 q1 q2
          go_wp2_with fail
          refine H10.out.mono ?_
          rintro e w9 hr
          cases hok : okB ⟨s.vow, s.con, s.ons ++ [o]⟩ x
          · obtain ⟨u2, rfl, hb9, _⟩ := syN hr hok
            clear hr hok
            go_wp2_with fail
            refine awake_any.mono ?_
            rintro e w10 ⟨rfl, hb10⟩
            go_wp2_with fail
            go_ret
            exact ⟨rfl, hB.then ((hb78.then hb9).then hb10)⟩
          · obtain ⟨u2, rfl, hb9, hu2⟩ := sy0 hr hok
            obtain ⟨e1, e2⟩ := onset_law (s := s) (s' := ⟨s.vow, s.con, s.ons ++ [o]⟩) (x := x) rfl (fun p h => by simp only [listedB, decide_eq_true_eq] at h ⊢; exact List.mem_append_left _ h)
              (valid_ap (ok_parts Hok.out).1) (word_wd (ok_parts Hok.out).2).1 (valid_len (ok_parts Hok.out).1) (valid_ap (ok_parts hok).1) (word_wd (ok_parts hok).2).1 (valid_len (ok_parts hok).1)
            obtain ⟨hfl, _⟩ := syl_flat (valid_ap (ok_parts Hok.out).1) (word_wd (ok_parts Hok.out).2).1 (valid_len (ok_parts Hok.out).1)
            have hlS := (syl_facts Hok.out).1
            have h200 : x.length ≤ 200 := (word_wd (ok_parts Hok.out).2).2
            have Hfl := Lib.hid (fun k => Nat.le_trans (flat_take_le (sylR s x) k) (Nat.le_of_eq (congrArg List.length hfl)))
            have He2 := Lib.hid e2
            have r1 := hu1.rd.after hb9
            have r2 := hu2.rd
            obtain ⟨L1, lc1, rfl, _, _⟩ := r1.form
            obtain ⟨L2, lc2, rfl, _, _⟩ := r2.form
            rw [e1] at r2
            rw [e1]
            have hb89 := hb78.then hb9
            clear hr hok e2 hfl hu1 hu2 H10 q3 q4 q5
            go_wp2_with fail
            go_loopw [12, 13, 14] (fun ua ub i wr => ∃ k : Nat, k ≤ (sylR s x).length ∧ i = .int .i64 k ∧ Dr w9 wr ∧ ua = .int .i64 (((sylR s x).take k).flatten.length : Nat) ∧ ub = .int .i64 (((sylR ⟨s.vow, s.con, s.ons ++ [o]⟩ x).take k).flatten.length : Nat)) (fun _ _ i _ => (sylR s x).length - (intOf i).toNat)
            case atStart => exact ⟨0, Nat.zero_le _, rfl, Dr.refl _, rfl, rfl⟩
            case round =>
              obtain ⟨k, hk, rfl, hd, rfl, rfl⟩ := hrel
              by_cases hlt : k < (sylR s x).length
              · obtain ⟨b1, o1, p1, l1, rfl, hp1, hr1, hc1⟩ := rd_sl r1 hd.bw hlt
                obtain ⟨b2, o2, p2, l2, rfl, hp2, hr2, hc2⟩ := rd_sl r2 hd.bw (by rw [e1]; exact hlt)
                obtain ⟨P1, n1, d1, rfl, _, _, hn1⟩ := hr1.form'
                obtain ⟨P2, n2, d2, rfl, _, _, hn2⟩ := hr2.form'
                have s1 := congrArg List.length (flat_take (sylR s x) k l1 hp1.out)
                have s2 := congrArg List.length (flat_take (sylR ⟨s.vow, s.con, s.ons ++ [o]⟩ x) k l2 hp2.out)
                rw [List.length_append, ← hn1.out] at s1
                rw [List.length_append, ← hn2.out] at s2
                have h1 := Hfl.out (k + 1)
                have h2 := He2.out (k + 1) hlt
                rw [s1] at h1
                rw [s1, s2] at h2
                have S1 := Lib.hid s1
                have S2 := Lib.hid s2
                obtain ⟨n0, rfl⟩ := hd
                clear s1 s2
                generalize ((sylR s x).take k).flatten.length = fa at *
                generalize ((sylR ⟨s.vow, s.con, s.ons ++ [o]⟩ x).take k).flatten.length = fb at *
                go_wp2_with fail
                exact ⟨⟨k + 1, hlt, by go_num, (Dr.refl _).drewN _, by rw [S1.out]; go_num, by rw [S2.out]; go_num⟩, by simp [intOf]; omega⟩
              · obtain ⟨n0, rfl⟩ := hd
                go_wp2_with fail
                refine awake_any.mono ?_
                rintro e w10 ⟨rfl, hb10⟩
                go_wp2_with fail
                go_ret
                exact ⟨rfl, hB.then ((hb89.drewN _).then hb10)⟩
  · have Hl := Lib.hid hl
    clear hl
    go_enter Try.func5, Try.ntmps5
    go_wp2_with fail
    refine (val_of (congrArg Value.bool Hl.out) HL.out).mono ?_
    rintro e w1 ⟨rfl, hb1⟩
    go_wp2_with fail
    refine awake_any.mono ?_
    rintro e w2 ⟨rfl, hb2⟩
    go_wp2_with fail
    go_ret
    exact ⟨rfl, (hB.then hb1).then hb2⟩
end Go.Proofs.Ytockfkmemoggiaa

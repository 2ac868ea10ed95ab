/- The contract of the statements' closed examples 'awake'. -/
import Derived.Test.YtockfkmemoggiaaSI
import Derived.Test.YtockfkmemoggiaaSH
namespace Go.Proofs.Ytockfkmemoggiaa
open Go.RowKit
open Pl

theorem hy0 {w w' : World} {s : Snd} {x : List Int} {m : Int} {e : Ending} (h : HyR w s x m e w') {l : List Int} (h0 : hyE s x m = 0) (hl : hyw s x m = l) :
    ∃ u, e = .returned (.tuple #[u, .int .i64 0]) ∧ Bw w w' ∧ Sl tInt w' (Hi w.heap.size) u l := by
  obtain ⟨u, h1, h2, h3⟩ := h
  rw [h0] at h1 h3
  exact ⟨u, h1, h2, by rw [← hl]; exact h3⟩
theorem hyN {w w' : World} {s : Snd} {x : List Int} {m k : Int} {e : Ending} (h : HyR w s x m e w') (h0 : hyE s x m = k) (hk : k ≠ 0) :
    ∃ u, e = .returned (.tuple #[u, .int .i64 k]) ∧ Bw w w' ∧ Sl tInt w' (Hi w.heap.size) u [] := by
  obtain ⟨u, h1, h2, h3⟩ := h
  rw [h0] at h1 h3
  exact ⟨u, h1, h2, by rw [if_neg hk] at h3; exact h3⟩
theorem syN {w w' : World} {s : Snd} {x : List Int} {e : Ending} (h : SylR w s x e w') (h0 : okB s x = false) :
    ∃ u, e = .returned (.tuple #[u, .int .i64 1]) ∧ Bw w w' ∧ Sl (tSlice tInt) w' (Hi w.heap.size) u [] := by
  obtain ⟨u, h1, h2, h3⟩ := h
  rw [h0] at h1 h3
  exact ⟨u, h1, h2, h3⟩
theorem sy0 {w w' : World} {s : Snd} {x : List Int} {e : Ending} (h : SylR w s x e w') (h0 : okB s x = true) :
    ∃ u, e = .returned (.tuple #[u, .int .i64 0]) ∧ Bw w w' ∧ Sl (tSlice tInt) w' (Hi w.heap.size) u (sylR s x) := by
  obtain ⟨u, h1, h2, h3⟩ := h
  rw [h0] at h1 h3
  exact ⟨u, h1, h2, h3⟩

theorem lit {w : World} {xs : List Int} (hl : xs.length ≤ maxLen) (hr : ∀ y ∈ xs, -9223372036854775808 ≤ y ∧ y ≤ 9223372036854775807) :
    Rd tInt (w.alloc (.cells (xs.map (Value.int .i64)).toArray 3)) (.slice (some ⟨w.heap.size, 0, none⟩) xs.length xs.length) xs := sl_lit (at_new rfl) (by simp) hl hr

/-- 'divided' of two literals. -/
theorem dv_lit {w : World} (x want : List Int) (h : dvB x want = true) (hl : x.length ≤ maxLen) (hr : ∀ y ∈ x, -9223372036854775808 ≤ y ∧ y ≤ 9223372036854775807) (hl' : want.length ≤ maxLen) (hr' : ∀ y ∈ want, -9223372036854775808 ≤ y ∧ y ≤ 9223372036854775807) :
    Calls Try.prog 21 #[.slice (some ⟨w.heap.size, 0, none⟩) x.length x.length, .slice (some ⟨w.heap.size + 1, 0, none⟩) want.length want.length]
      ((w.alloc (.cells (x.map (Value.int .i64)).toArray 3)).alloc (.cells (want.map (Value.int .i64)).toArray 3)) fun e w' => e = .returned (.bool true) ∧ Bw w w' := by
  have h2 : Rd tInt ((w.alloc (.cells (x.map (Value.int .i64)).toArray 3)).alloc (.cells (want.map (Value.int .i64)).toArray 3)) (.slice (some ⟨w.heap.size + 1, 0, none⟩) want.length want.length) want := by
    have := lit (w := w.alloc (.cells (x.map (Value.int .i64)).toArray 3)) hl' hr'
    rwa [show (w.alloc (.cells (x.map (Value.int .i64)).toArray 3)).heap.size = w.heap.size + 1 by simp] at this
  refine (divided_any ((lit hl hr).alloc _) h2).mono ?_
  rintro e w' ⟨rfl, hb⟩
  exact ⟨by rw [h], (bw_al (bw_al (Below.refl _ _) _) _).then hb⟩

theorem sounds_rules {w : World} {a b c : Value} (h : SndR w a b c snd0) : Calls Try.prog 20 #[.agg #[a, b, c], .int .i64 9] w fun e w' => (∃ A, e = .returned (.tuple #[.slice A 1 1, .int .i64 0])) ∧ Bw w w' := by
  refine (rules_any h (by decide) (by decide) (.inl (by decide))).mono ?_
  rintro e w' ⟨A, n, he, hb, hn⟩
  have hok : (validB snd0 && markB snd0 9) = true := by decide
  rw [hok] at he hn
  rw [if_pos rfl] at he hn
  subst hn
  exact ⟨⟨A, he⟩, hb⟩

set_option maxRecDepth 100000 in
set_option maxHeartbeats 4000000 in
theorem awake_any {w : World} : Calls Try.prog 8 #[] w fun e w' => e = .returned (.bool true) ∧ Bw w w' := by
  go_enter Try.func8, Try.ntmps8
  go_wp2_with fail
  refine sounds_any.mono ?_
  rintro e w1 ⟨⟨a, b, c, rfl, hs⟩, hb1⟩
  have H1 := Lib.hid (syllables_any (hs.alloc _) (lit (w := w1) (xs := [7]) (by decide) (by decide)))
  go_wp2_with fail
  refine H1.out.mono ?_
  rintro e w2 h2
  obtain ⟨u1, rfl, hb2, _⟩ := syN h2 (by decide)
  have hb := hb1.then ((bw_al (Below.refl _ _) _).then hb2)
  clear h2 H1 hb1 hb2 hs
  go_wp2_with fail
  refine sounds_any.mono ?_
  rintro e w3 ⟨⟨a, b, c, rfl, hs⟩, hb1⟩
  have H1 := Lib.hid (hyph_any (m := 9) (hs.alloc _) (lit (w := w3) (xs := [1, 3, 2]) (by decide) (by decide)) (by decide) (by decide))
  go_wp2_with fail
  refine H1.out.mono ?_
  rintro e w4 h2
  obtain ⟨u2, rfl, hb2, hu2⟩ := hy0 (l := [1, 9, 3, 2]) h2 (by decide) (by decide)
  have hbb := hb.then (hb1.then ((bw_al (Below.refl _ _) _).then hb2))
  have hr2 := hu2.rd
  clear h2 H1 hb1 hb2 hs hb hu2
  go_wp2_with fail
  refine sounds_any.mono ?_
  rintro e w5 ⟨⟨a, b, c, rfl, hs⟩, hb1⟩
  have H1 := Lib.hid (hyph_any (m := 3) (hs.alloc _) (lit (w := w5) (xs := [1, 3, 2]) (by decide) (by decide)) (by decide) (by decide))
  go_wp2_with fail
  refine H1.out.mono ?_
  rintro e w6 h2
  obtain ⟨u3, rfl, hb2, _⟩ := hyN (k := 1) h2 (by decide) (by decide)
  have hr3 := hr2.after (hb1.then ((bw_al (Below.refl _ _) _).then hb2))
  have hb := hbb.then (hb1.then ((bw_al (Below.refl _ _) _).then hb2))
  clear h2 H1 hb1 hb2 hs hbb hr2
  go_wp2_with fail
  refine sounds_any.mono ?_
  rintro e w7 ⟨⟨a, b, c, rfl, hs⟩, hb1⟩
  have H1 := Lib.hid (sounds_rules hs)
  go_wp2_with fail
  refine H1.out.mono ?_
  rintro e w8 ⟨⟨L, rfl⟩, hb2⟩
  have hr4 := hr3.after (hb1.then hb2)
  have hbb := hb.then (hb1.then hb2)
  clear H1 hb1 hb2 hs hb hr3
  have H1 := Lib.hid (dv_lit (w := w8) [1, 3, 2] [1, 0, 3, 2] (by decide) (by decide) (by decide) (by decide) (by decide))
  go_wp2_with fail
  refine H1.out.mono ?_
  rintro e w9 ⟨rfl, hb2⟩
  have hr5 := hr4.after hb2
  have hb := hbb.then hb2
  clear H1 hr4 hbb hb2
  have H1 := Lib.hid (dv_lit (w := w9) [5, 1, 6, 3, 4, 2, 2, 5] [5, 1, 6, 0, 3, 4, 2, 2, 5] (by decide) (by decide) (by decide) (by decide) (by decide))
  go_wp2_with fail
  refine H1.out.mono ?_
  rintro e w10 ⟨rfl, hb2⟩
  have hr4 := hr5.after hb2
  have hbb := hb.then hb2
  clear H1 hr5 hb hb2
  have H1 := Lib.hid (dv_lit (w := w10) [1, 4, 3, 2] [1, 4, 0, 3, 2] (by decide) (by decide) (by decide) (by decide) (by decide))
  go_wp2_with fail
  refine H1.out.mono ?_
  rintro e w11 ⟨rfl, hb2⟩
  have hr5 := hr4.after hb2
  have hb := hbb.then hb2
  clear H1 hr4 hbb hb2
  have H1 := Lib.hid (dv_lit (w := w11) [3, 4] [3, 4] (by decide) (by decide) (by decide) (by decide) (by decide))
  go_wp2_with fail
  refine H1.out.mono ?_
  rintro e w12 ⟨rfl, hb2⟩
  have hr4 := hr5.after hb2
  have hbb := hb.then hb2
  clear H1 hr5 hb hb2
  have H1 := Lib.hid (val_of (congrArg Value.bool (show dvB [] [] = true by decide)) (divided_any (w := w12) (x := []) (want := []) (v := .slice none 0 0) (u := .slice none 0 0) Sl.nil Sl.nil))
  go_wp2_with fail
  refine H1.out.mono ?_
  rintro e w13 ⟨rfl, hb2⟩
  have hr5 := hr4.after hb2
  have hb := hbb.then hb2
  clear H1 hr4 hbb hb2
  have H1 := Lib.hid (val_of (congrArg Value.bool (show sameB [1, 9, 3, 2] [1, 9, 3, 2] = true by decide)) (sameInts_any (hr5.alloc (.cells (([1, 9, 3, 2] : List Int).map (Value.int .i64)).toArray 3)) (lit (w := w13) (xs := [1, 9, 3, 2]) (by decide) (by decide))))
  go_wp2_with fail
  refine H1.out.mono ?_
  rintro e w14 ⟨rfl, n, rfl⟩
  have hbb := (bw_al hb (.cells (([1, 9, 3, 2] : List Int).map (Value.int .i64)).toArray 3)).drewN n
  clear H1 hr5 hb
  go_wp2_with fail
  refine sounds_any.mono ?_
  rintro e w15 ⟨⟨a, b, c, rfl, hs⟩, hb1⟩
  have H1 := Lib.hid (val_of (congrArg Value.bool (show validB snd0 = true by decide)) (pvalid_any hs))
  go_wp2_with fail
  refine H1.out.mono ?_
  rintro e w16 ⟨rfl, hb2⟩
  go_wp2_with fail
  go_ret
  exact ⟨rfl, (hbb.then hb1).then hb2⟩
end Go.Proofs.Ytockfkmemoggiaa

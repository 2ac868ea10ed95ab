/- The contract of Whole: the library's sort and Compact of texts. Conditions: the library's two tables stand in the world. -/
import Derived.Test.YtonadloonidmjaaDoorG8
import Derived.Test.YtonadloonidmjaaDoorGV
import Derived.Sort.OwnSorted
namespace Go.Proofs.YtonadloonidmjaaDoor
open Go.RowKit Go.Sort
open Pl

/-- In block g lie the texts zs, from its first cell on. -/
def StrRow (e : TypeId) (w : World) (g cap : Nat) (zs : List (List UInt8)) : Prop := ∃ cur, w.heap[g]? = some (.cells cur e (0, 0)) ∧ cur.size = cap ∧ cur.toList.take zs.length = zs.map encStr

theorem acc_strs {e : TypeId} {w : World} {base : Nat} {v : Value} {ss : List ByteArray} (h : Acc tStr e w base v ss) (h0 : 0 < ss.length) :
    ∃ g cap, v = .slice (some ⟨g, 0, none⟩) ss.length cap ∧ base ≤ g ∧ ss.length ≤ cap ∧ cap ≤ maxLen ∧ StrRow e w g cap (ss.map (·.data.toList)) := by
  obtain ⟨css, h1, h2, h3⟩ := h
  have hcs : css = ss.map fun s => [Value.string s] := by
    apply List.ext_getElem (by simp [h2])
    intro j hj hj'
    have hjs : j < ss.length := by omega
    have := (h3 j _ _ (List.getElem?_eq_getElem hjs) (List.getElem?_eq_getElem hj)).1
    rw [this]; simp
  have hf : css.flatten = (ss.map (·.data.toList)).map encStr := by
    rw [hcs]
    clear h1 h2 h3 hcs h0
    induction ss with
    | nil => rfl
    | cons s r ih => simp only [List.map_cons, List.flatten_cons, ih, List.singleton_append]
  rcases h1.2 with ⟨_, h0'⟩ | ⟨g, cap, cur, rfl, hbg, hg, hn, hc, hsz, htk⟩
  · omega
  · refine ⟨g, cap, rfl, hbg, hn, hc, cur, hg, by simpa [tStr] using hsz, ?_⟩
    rw [← hf, ← htk]
    simp [tStr]
theorem acc_str_size {e : TypeId} {w : World} {base : Nat} {v : Value} {ss : List ByteArray} (h : Acc tStr e w base v ss) : ∀ s ∈ ss, s.size ≤ maxLen := by
  intro s hs
  obtain ⟨j, hj⟩ := List.mem_iff_getElem?.1 hs
  obtain ⟨_, _, _, _, _, _, h1, _⟩ := h.sl.cells hj
  exact h1.2
theorem sl_of_row {e : TypeId} {w : World} {g cap : Nat} {ts : List ByteArray} {D : Nat → Prop} (hr : StrRow e w g cap (ts.map (·.data.toList))) (hD : D g) (hn : ts.length ≤ cap) (hc : cap ≤ maxLen) (hs : ∀ s ∈ ts, s.size ≤ maxLen) :
    Sl tStr w D (.slice (some ⟨g, 0, none⟩) ts.length cap) ts := by
  obtain ⟨cur, hg, hsz, ht⟩ := hr
  refine ⟨_, cap, rfl, hn, hc, .inr ⟨g, 0, rfl, hD, fun j x hj => ⟨[.string x], ⟨rfl, hs x (List.mem_of_getElem? hj)⟩, fun i u hi => ?_⟩⟩⟩
  cases i with
  | zero =>
    simp at hi; subst hi
    rw [show 0 + j * tStr.size + 0 = j by simp [tStr], cell_of_row w g j cur e (0, 0) hg]
    have hjl := (List.getElem?_eq_some_iff.1 hj).1
    have h1 := congrArg (fun l => l[j]?) ht
    simp only [List.length_map] at h1
    rw [List.getElem?_take_of_lt hjl, List.getElem?_map, List.getElem?_map, hj, Array.getElem?_toList] at h1
    exact h1
  | succ i => simp at hi

theorem lays35 {g n : Nat} {w : World} : Go.Proofs.CmpLays1 Tryd.prog 35 #[] encStr cb g 0 n w := by
  intro m os dk _ x y
  refine (lcmp_any (bsT x) (bsT y)).mono ?_
  rintro e w' ⟨rfl, rfl⟩
  exact ⟨by rw [cmp_bsT], 0, #[], by rw [grow_empty]; rfl⟩
theorem enters35 : ∀ (args : Array Value) (W : World), (callFunc 35 args).run Tryd.prog W = .ok (.enter 35 args) W := enters_of Tryd.func35 (by kernel_rfl) rfl
theorem one_encStr : OneCell encStr := fun _ => rfl

theorem srt_len (l : List (List UInt8)) : (srt l).length = l.length := (srt_perm l).length_eq
theorem sort34 {e : TypeId} {w : World} {g cap : Nat} {zs : List (List UInt8)} (h : StrRow e w g cap zs) (hc : zs.length ≤ cap) (hl : zs.length < 4611686018427387904) :
    Calls Tryd.prog 34 #[.slice (some ⟨g, 0, none⟩) zs.length cap, .func (.func 35) #[] #[]] w fun e' w' => e' = .returned (.tuple #[]) ∧ StrRow e w' g cap (srt zs) ∧ w.grownBy w' (some g) := by
  obtain ⟨cur, hg, hsz, ht⟩ := h
  have H := Tryd.slices_SortFunc_total encStr one_encStr cb ltC_swo 35 #[] g 0 cap zs.toArray w enters35 lays35 (holds_of_block hg ht) (Array.getElem?_eq_some_iff.1 hg).1 (by simpa using hl) ltC_one
  rw [List.size_toArray] at H
  refine H.mono ?_
  rintro e' w' ⟨rfl, n, os, rfl⟩
  refine ⟨rfl, ⟨_, heap_sorted _ hg, by simp [putCells, hsz], ?_⟩, grownBy_sorted _⟩
  exact take_putCells cur (srt zs) (by rw [srt_len]; omega)
theorem compact36 {e : TypeId} {w : World} {g cap : Nat} {zs : List (List UInt8)} (h : StrRow e w g cap zs) (hc : zs.length ≤ cap) (hl : zs.length < 4611686018427387904) :
    Calls Tryd.prog 36 #[.slice (some ⟨g, 0, none⟩) zs.length cap] w fun e' w' => e' = .returned (.slice (some ⟨g, 0, none⟩) (Lib.compact zs).length cap) ∧ StrRow e w' g cap (Lib.compact zs) ∧ w.grownBy w' (some g) := by
  obtain ⟨cur, hg, hsz, ht⟩ := h
  have hle := Lib.compact_length_le zs
  refine (Tryd.slices_Compact_string g 0 cap zs w (holds_of_block hg ht) (by omega) hc).mono ?_
  rintro e' w' ⟨rfl, q, rfl⟩
  have e0 : ∀ X : World, X = grow X #[] := fun X => (grow_empty X).symm
  rw [e0 (putRow _ _ _ _ _)]
  refine ⟨rfl, ⟨_, heap_sorted _ hg, by simp [putCells, hsz], ?_⟩, grownBy_sorted _⟩
  have h1 := take_putCells cur (Lib.compact zs ++ List.replicate (zs.length - (Lib.compact zs).length) []) (by simp; omega)
  have h2 := congrArg (List.take (Lib.compact zs).length) h1
  rw [List.take_take, List.map_append, List.take_left' (by simp)] at h2
  rwa [Nat.min_eq_left (by simp)] at h2

theorem tagsOf_snoc {l : List Kn} {x : List Int} {k : Nat} {y : Kn} (h : l[k]? = some y) : tagsOf (l.take (k + 1)) x = tagsOf (l.take k) x ++ (if y.1 = x then [y.2] else []) := by
  unfold tagsOf
  rw [List.take_add_one, h]
  simp only [Option.toList_some, List.filter_append, List.map_append]
  congr 1
  by_cases e : y.1 = x
  · simp [e]
  · simp [e]
theorem tagsOf_len (l : List Kn) (x : List Int) : (tagsOf l x).length ≤ l.length := by
  unfold tagsOf
  rw [List.length_map]
  exact List.length_filter_le _ _

set_option maxRecDepth 100000 in
set_option maxHeartbeats 8000000 in
theorem whole_any {v u : Value} {l : List Kn} {x : List Int} {w : World} (hT : Tb w) (h : Rd tKn w v l) (hx : Rd tInt w u x) (hl : l.length ≤ 1000000) :
    Calls Tryd.prog 15 #[v, u] w (Fr tStr w (wholeP l x)) := by
  have hm := h.len_le
  have hmx := hx.len_le
  obtain ⟨i0, hi, hz0, hz1, hz2⟩ := info_parts infoStr
  obtain ⟨A, c, rfl, _, _⟩ := h.form
  obtain ⟨A', c', rfl, _, _⟩ := hx.form
  cases hv : knownB l
  · have hR : Hid (wholeP l x = []) := by show _ = _; unfold wholeP; rw [hv]; rfl
    go_enter Tryd.func15, Tryd.ntmps15
    go_wp2_with (go_at_call 21; (with_reducible refine (val_of (congrArg Value.bool hv) (known_any hT h)).mono ?_); rintro e w1 ⟨rfl, hb1⟩)
    go_ret
    exact ⟨.slice none 0 0, rfl, hb1, by rw [hR.out]; exact Sl.nil⟩
  have hR : Hid (wholeP l x = wholeE (tagsOf l x)) := by show _ = _; unfold wholeP; rw [hv]; rfl
  go_enter Tryd.func15, Tryd.ntmps15
  go_wp2_with (go_at_call 21; (with_reducible refine (val_of (congrArg Value.bool hv) (known_any hT h)).mono ?_); rintro e w1 ⟨rfl, hb1⟩)
  clear hv
  go_loopw [4, 12] (fun t i wr => ∃ k : Nat, k ≤ l.length ∧ i = .int .i64 k ∧ Bw w wr ∧ Acc tStr 9 wr w.heap.size t (tagsOf (l.take k) x)) (fun _ i _ => l.length - (intOf i).toNat)
  case atStart => exact ⟨0, Nat.zero_le _, rfl, hb1, Acc.nil _ _⟩
  case round =>
    obtain ⟨k, hk, rfl, hd, hA⟩ := hrel
    have hlen := tagsOf_len (l.take k) x
    have hlen : (tagsOf (l.take k) x).length ≤ l.length := Nat.le_trans hlen (by rw [List.length_take]; omega)
    by_cases hlt : k < l.length
    · obtain ⟨b, off, y, u1, rfl, hy, hys, hu, e0, e1⟩ := (h.after hd).kn hlt
      obtain ⟨A1, n1, c1, rfl, _, _, _⟩ := hu.form'
      have hu := hu.rd
      have hsz0 := hd.size
      cases hsm : same y.1 x
      · have hsn : Hid (tagsOf (l.take (k + 1)) x = tagsOf (l.take k) x) := by
          show _ = _
          unfold same at hsm
          rw [decide_eq_false_iff_not] at hsm
          rw [tagsOf_snoc hy.out, if_neg hsm, List.append_nil]
        have HEQ := Lib.hid (fun (W : World) (kk : Bw wr W) => val_of (congrArg Value.bool hsm) (equal_any (hu.after kk) (hx.after (hd.then kk))))
        clear hsm
        go_wp2_with fail
        with_reducible refine (HEQ.out _ (bw_refl_al _ _)).mono ?_
        rintro e w3 ⟨rfl, hd3⟩
        have hb3 := (bw_refl_al wr (.cells #[.slice A1 n1 c1, .string y.2] 27)).then hd3.bw
        have hA := hA.after hb3
        rw [← hsn.out] at hA
        have hdw := hd.then hb3
        clear HEQ hu e0 e1 hd hd3
        go_wp2_with fail
        exact ⟨⟨k + 1, hlt, by go_num, hdw, hA⟩, by simp [intOf]; omega⟩
      · have hsn : Hid (tagsOf (l.take (k + 1)) x = tagsOf (l.take k) x ++ [y.2]) := by
          show _ = _
          unfold same at hsm
          rw [decide_eq_true_iff] at hsm
          rw [tagsOf_snoc hy.out, if_pos hsm]
        have HEQ := Lib.hid (fun (W : World) (kk : Bw wr W) => val_of (congrArg Value.bool hsm) (equal_any (hu.after kk) (hx.after (hd.then kk))))
        clear hsm
        go_wp2_with fail
        with_reducible refine (HEQ.out _ (bw_refl_al _ _)).mono ?_
        rintro e w3 ⟨rfl, hd3⟩
        have hb3 := (bw_refl_al wr (.cells #[.slice A1 n1 c1, .string y.2] 27)).then hd3.bw
        have d1 := row2_1 (row_bw hd3.bw (at_new (w := wr) (o := .cells #[.slice A1 n1 c1, .string y.2] 27) rfl))
        have hA := hA.after hb3
        have hown := hA.own
        have hdw := hd.then hb3
        have hsz3 := hdw.size
        have hA2 : Acc tStr 9 (w3.alloc (.cells #[.string y.2] 9)) w.heap.size u4 (tagsOf (l.take k) x) := hA.alloc _
        have hbA : Bw w (w3.alloc (.cells #[.string y.2] 9)) := bw_al hdw _
        have hszA := hbA.size
        clear HEQ hu e0 e1 hd hd3 hb3 hA
        go_wp2_with (at_builtin; refine wpList_app_one (T := tStr) rfl _ _ rfl Tryd.underlying39 hi hz0 hz1 hz2 rfl rfl hA2 rfl (at_new rfl) ⟨rfl, by simpa [maxLen] using hys⟩ (by unfold maxLen; omega) (by omega) hszA ?_; intro v7 w7 hA7 hg7 hat7)
        have hb7 : Bw w w7 := Acc.bw hbA hg7 (fun g e => (hown g e).1) (Nat.le_refl _)
        rw [← hsn.out] at hA7
        exact ⟨⟨k + 1, hlt, by go_num, hb7, hA7⟩, by simp [intOf]; omega⟩
    · have hkl : k = l.length := by omega
      subst hkl
      rw [List.take_length] at hA hlen
      by_cases h0 : tagsOf l x = []
      · have hRR : Hid (wholeP l x = []) := by show _ = _; rw [hR.out, h0]; rfl
        obtain ⟨A4, c4, e4, _, _⟩ := hA.form
        rw [h0] at e4
        simp only [List.length_nil] at e4
        subst e4
        clear hA hlen
        go_wp2_with (first | (go_at_call 34; (with_reducible refine (Tryd.slices_SortFunc_none (α := Nat) _ _ _ _).mono ?_); rintro e w5 ⟨rfl, rfl⟩) | (go_at_call 36; (with_reducible refine (Tryd.slices_Compact_string_empty _ _ _).mono ?_); rintro e w6 ⟨rfl, rfl⟩))
        go_ret
        exact ⟨_, rfl, hd, by rw [hRR.out]; exact Sl.empty _ _ (by assumption)⟩
      · have hpos : 0 < (tagsOf l x).length := List.length_pos_iff.2 h0
        obtain ⟨g, cap, e4, hbg, hcap, hcm, hrow⟩ := acc_strs hA hpos
        subst e4
        have hss := acc_str_size hA
        have HS := sort34 hrow (by simpa using hcap) (by simp; omega)
        rw [List.length_map] at HS
        have HS := Lib.hid HS
        have HC := Lib.hid (fun (W : World) (hr : StrRow 9 W g cap (srt ((tagsOf l x).map (·.data.toList)))) => compact36 hr (by rw [srt_len]; simpa using hcap) (by rw [srt_len]; simp; omega))
        have hce := Lib.hid (compact_whole (tagsOf l x))
        have hle := Lib.hid (Lib.compact_length_le (srt ((tagsOf l x).map (·.data.toList))))
        have e5 : (srt ((tagsOf l x).map (·.data.toList))).length = (tagsOf l x).length := by rw [srt_len]; simp
        clear hA hrow h0 hlen
        go_wp2_with fail
        with_reducible refine HS.out.mono ?_
        rintro e w5 ⟨rfl, hr5, hg5⟩
        have hb5 : Bw w w5 := bw_grown hd hg5 hbg
        have HC := HC.out _ hr5
        rw [e5] at HC
        have HC := Lib.hid HC
        clear HS
        go_wp2_with fail
        with_reducible refine HC.out.mono ?_
        rintro e w6 ⟨rfl, hr6, hg6⟩
        have hb6 : Bw w w6 := bw_grown hb5 hg6 hbg
        clear HC
        go_wp2_with fail
        go_ret
        have hwl : (wholeE (tagsOf l x)).length = (Lib.compact (srt ((tagsOf l x).map (·.data.toList)))).length := by rw [← hce.out, List.length_map]
        refine ⟨_, rfl, hb6, ?_⟩
        rw [hR.out, ← hwl]
        refine sl_of_row (e := 9) ?_ hbg (by have := hle.out; omega) hcm fun s hs => hss s ((wholeE_mem _ _).1 hs)
        rw [← hce.out, List.map_map]
        have : ((fun x : ByteArray => x.data.toList) ∘ bsT) = id := by funext z; exact data_bsT z
        rw [this, List.map_id]
        exact hr6
end Go.Proofs.YtonadloonidmjaaDoor

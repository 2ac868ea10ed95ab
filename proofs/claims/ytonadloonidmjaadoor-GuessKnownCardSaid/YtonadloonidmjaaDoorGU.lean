/- The contract of Guess, given the stable sort's at the lists that it sorts. Conditions: the library's two tables stand in the world. -/
import Derived.Test.YtonadloonidmjaaDoorGT
import Derived.Test.YtonadloonidmjaaDoorGR
namespace Go.Proofs.YtonadloonidmjaaDoor
open Go.RowKit
open Pl

theorem set_old {w : World} {g k i : Nat} {v : Value} (h : k ≠ g) : (w.setCell ⟨g, i, none⟩ v).heap[k]? = w.heap[k]? := heap_setCell_other w ⟨g, i, none⟩ k v h
theorem set_grown (w : World) (g i : Nat) (v : Value) : w.grownBy (w.setCell ⟨g, i, none⟩ v) (some g) :=
  ⟨rfl, rfl, rfl, by simp [World.setCell], fun k _ hk => set_old (fun e => hk (by rw [e]))⟩
theorem set3_0 {w : World} {g : Nat} {a b c v : Value} {e : TypeId} (h : w.heap[g]? = some (.cells #[a, b, c] e (0, 0))) : (w.setCell ⟨g, 0, none⟩ v).heap[g]? = some (.cells #[v, b, c] e (0, 0)) := by
  rw [heap_setCell_same w g 0 _ e v h]; rfl

/-- A cut 'x[k:]' of ints. -/
theorem cut_tailI {A : Option Addr} {n c k : Nat} (hk : k ≤ n) (_hn : n ≤ 9223372036854775807) (W : World) :
    (Instr.slice 25 (.slice A n c) (some (.int .i64 (k : Int))) none none).run Tryd.prog W = .ok (.slice (if c = k then A else A.map (·.add (k * 1))) (n - k) (c - k)) W := by
  obtain ⟨i, hi, _, hi3, _⟩ := info_parts infoI
  have hb1 : (Instr.sliceBound (.int .i64 (k : Int)) n .sliceB).run Tryd.prog W = .ok k W := by have := run_sliceBound (P := Tryd.prog) W .i64 (k : Int) n .sliceB (by omega) (by omega); simpa using this
  cases A <;> simp [Instr.slice, run_underlying Tryd.underlying25, Instr.sliceBounds, hb1, sizeOf, typeInfo, hi, Result.andThen, hi3]
theorem tail_ints {A : Option Addr} {c k : Nat} {xs : List Int} (hk : k ≤ xs.length) (hn : xs.length ≤ 9223372036854775807) : ∃ B m d, (∀ W, (Instr.slice 25 (.slice A xs.length c) (some (.int .i64 (k : Int))) none none).run Tryd.prog W = .ok (.slice B m d) W) ∧ ∀ (W : World) (D : Nat → Prop), Sl tInt W D (.slice A xs.length c) xs → Sl tInt W D (.slice B m d) (xs.drop k) :=
  ⟨_, _, _, fun W => cut_tailI hk hn W, fun W D h => by
    have := h.cut (l := k) (n := xs.length) (m := xs.length - k) hk (Nat.le_refl _) rfl
    rw [List.take_length] at this
    exact this⟩

/-- Of a list in order: the elements with one word stand side by side. -/
theorem atW_side {g : List En} {x : List Int} {k p : Nat} (hs : SK g) (hkp : k ≤ p) (hp : p ≤ g.length) (h1 : ∀ j y, j < k → g[j]? = some y → cmpL y.1 x < 0) (h2 : ∀ j y, k ≤ j → j < p → g[j]? = some y → y.1 = x) (h3 : ∀ y, g[p]? = some y → y.1 ≠ x) (h4 : ∀ j y, k ≤ j → g[j]? = some y → 0 ≤ cmpL y.1 x) : atW g x = (g.drop k).take (p - k) := by
  have e : g = g.take k ++ ((g.drop k).take (p - k) ++ g.drop p) := by
    have e1 : (g.drop k).drop (p - k) = g.drop p := by rw [List.drop_drop]; congr 1; omega
    rw [← e1, List.take_append_drop, List.take_append_drop]
  have f1 : (g.take k).filter (fun e => decide (e.1 = x)) = [] := by
    rw [List.filter_eq_nil_iff]
    intro y hy
    obtain ⟨j, hj, hgj⟩ := mem_take_iff.1 hy
    have := h1 j y hj hgj
    simp only [decide_eq_true_eq]
    rintro rfl
    rw [totL.self] at this; omega
  have f2 : ((g.drop k).take (p - k)).filter (fun e => decide (e.1 = x)) = (g.drop k).take (p - k) := by
    rw [List.filter_eq_self]
    intro y hy
    obtain ⟨j, hj, hgj⟩ := mem_take_iff.1 hy
    rw [List.getElem?_drop] at hgj
    simpa using h2 (k + j) y (by omega) (by omega) hgj
  have f3 : (g.drop p).filter (fun e => decide (e.1 = x)) = [] := by
    rw [List.filter_eq_nil_iff]
    intro y hy
    obtain ⟨j, hj⟩ := List.mem_iff_getElem?.1 hy
    rw [List.getElem?_drop] at hj
    simp only [decide_eq_true_eq]
    intro hyx
    have hpl : p < g.length := by have := (List.getElem?_eq_some_iff.1 hj).1; omega
    have hgp := List.getElem?_eq_getElem hpl
    have hne := h3 _ hgp
    have hge := h4 p _ hkp hgp
    generalize g[p] = z at *
    rcases Nat.eq_zero_or_pos j with rfl | hj0
    · rw [Nat.add_zero, hgp] at hj; injection hj with hj; subst hj; exact hne hyx
    · rcases rE_word (sk_at hs (show p < p + j by omega) hgp hj) with h | h
      · rw [hyx] at h; omega
      · exact hne (h.trans hyx)
  unfold atW
  rw [e, List.filter_append, List.filter_append, f1, f2, f3, List.nil_append, List.append_nil, ← e]
theorem atW_none {g : List En} {x : List Int} {k : Nat} {b : Bool} (hs : SK g) (h : BS g x k b) (hb : b = false) : atW g x = [] := by
  have := atW_side (p := k) hs (Nat.le_refl _) h.le h.lo (fun j y h1 h2 => by omega) (fun y hy e => by rw [hb] at h; have := h.found.2 ⟨y, hy, e⟩; cases this) h.hi
  rw [this, Nat.sub_self, List.take_zero]

/-- What the stable sort does to a list. -/
def StableAt (xs : List En) : Prop := ∀ (v : Value) (base : Nat) (w : World), Acc tEn 37 w base v xs →
  Calls Tryd.prog 31 #[v, .func (.func 32) #[] #[]] w fun e w' => e = .returned (.tuple #[]) ∧ Acc tEn 37 w' base v (sortL xs) ∧ ∃ g, base ≤ g ∧ w.grownBy w' (some g)
def GuessR (g : List En) (x : List Int) (w : World) (e : Ending) (w' : World) : Prop := ∃ v, e = .returned (.tuple #[v, .int .i64 (guessP g x).2]) ∧ Bw w w' ∧ Sl tEn w' (Hi w.heap.size) v (guessP g x).1

theorem endF_of {g : List En} {x : List Int} : ∀ n : Nat, (∀ j, j ≤ n → atW g (x.drop (x.length - j)) = []) → endF g x n = []
  | 0, h => h 0 (Nat.le_refl _)
  | n + 1, h => by
    rw [endF, if_pos (h (n + 1) (Nat.le_refl _))]
    exact endF_of n fun j hj => h j (by omega)
theorem endF_at {g : List En} {x : List Int} {m : Nat} (h : atW g (x.drop (x.length - m)) ≠ []) : ∀ n : Nat, m ≤ n → (∀ j, m < j → j ≤ n → atW g (x.drop (x.length - j)) = []) → endF g x n = atW g (x.drop (x.length - m))
  | 0, hm, _ => by
    have : m = 0 := by omega
    subst this; rfl
  | n + 1, hm, hn => by
    rw [endF]
    by_cases e : m = n + 1
    · subst e; rw [if_neg h]
    · rw [if_pos (hn (n + 1) (by omega) (Nat.le_refl _))]
      exact endF_at h n (by omega) fun j h1 h2 => hn j h1 (by omega)
theorem infoE : (Tryd.prog.info? 37).map (fun i => (i.zero, i.size, i.bytes)) = some (some (.agg #[.slice none 0 0, .string ⟨#[]⟩, .int .i64 0]), 3, 48) := by kernel_rfl
set_option maxRecDepth 100000 in
set_option maxHeartbeats 8000000 in
theorem guess_any {v u : Value} {g : List En} {x : List Int} {w : World} (hT : Tb w) (h : Rd tEn w v g) (hx : Rd tInt w u x) (hst : validG g = true → ∀ y, atW g y ≠ [] → StableAt (atW g y)) :
    Calls Tryd.prog 13 #[v, u] w (GuessR g x w) := by
  have hm := h.len_le
  have hmx := hx.len_le
  obtain ⟨A, c, rfl, _, _⟩ := h.form
  obtain ⟨A', c', rfl, _, _⟩ := hx.form
  obtain ⟨i0, hi, hz0, hz1, hz2⟩ := info_parts infoE
  cases hv : validG g
  · have hR : Hid (guessP g x = ([], 1)) := by show _ = _; unfold guessP; rw [hv]; rfl
    go_enter Tryd.func13, Tryd.ntmps13
    go_wp2_with (go_at_call 25; (with_reducible refine (val_of (congrArg Value.bool hv) (valid_any hT h)).mono ?_); rintro e w1 ⟨rfl, hb1⟩)
    go_ret2
    exact ⟨.slice none 0 0, by rw [hR.out]; rfl, hb1, by rw [hR.out]; exact Sl.nil⟩
  cases hw : wordB x
  · have hR : Hid (guessP g x = ([], 1)) := by show _ = _; unfold guessP; rw [hv, hw]; rfl
    go_enter Tryd.func13, Tryd.ntmps13
    go_wp2_with (first | (go_at_call 25; (with_reducible refine (val_of (congrArg Value.bool hv) (valid_any hT h)).mono ?_); rintro e w1 ⟨rfl, hb1⟩) | (go_at_call 26; (with_reducible refine (val_of (congrArg Value.bool hw) (isWord_any (hx.after hb1))).mono ?_); rintro e w2 ⟨rfl, n, rfl⟩))
    go_ret2
    exact ⟨.slice none 0 0, by rw [hR.out]; rfl, hb1.then (Dr.n _ _).bw, by rw [hR.out]; exact Sl.nil⟩
  have hR : Hid (guessP g x = if endF g x x.length = [] then ([], 4) else (sortL (endF g x x.length), 0)) := by show _ = _; unfold guessP; rw [hv, hw]; rfl
  have hs := validG_sorted hv
  have hgl := validG_len hv
  have hST := hst hv
  go_enter Tryd.func13, Tryd.ntmps13
  go_wp2_with (first | (go_at_call 25; (with_reducible refine (val_of (congrArg Value.bool hv) (valid_any hT h)).mono ?_); rintro e w1 ⟨rfl, hb1⟩) | (go_at_call 26; (with_reducible refine (val_of (congrArg Value.bool hw) (isWord_any (hx.after hb1))).mono ?_); rintro e w2 ⟨rfl, n, rfl⟩))
  have hb1n : Bw w (w1.drewN n) := hb1.then (Dr.n _ _).bw
  go_loopw [4, 6] (fun l i wr => ∃ (z : Int) (k : Nat), l = .slice none 0 0 ∧ i = .int .i64 z ∧ z + 1 = (k : Int) ∧ k ≤ x.length + 1 ∧ Bw w wr ∧ Hid (∀ j, k ≤ j → j ≤ x.length → atW g (x.drop (x.length - j)) = [])) (fun _ i _ => (intOf i + 1).toNat)
  case atStart => exact ⟨x.length, x.length + 1, rfl, rfl, by omega, Nat.le_refl _, hb1n, fun j h1 h2 => absurd h2 (by omega)⟩
  case round =>
    obtain ⟨z, k0, rfl, rfl, hzk, hk0, hd, hno⟩ := hrel
    by_cases hz : z < 0
    · have hz' : ¬ (0 : Int) ≤ z := by omega
      have hRR : Hid (guessP g x = ([], 4)) := by show _ = _; rw [hR.out, if_pos (endF_of x.length fun j hj => hno.out j (by omega) hj)]
      go_wp2_with fail
      go_ret2
      exact ⟨.slice none 0 0, by rw [hRR.out]; rfl, hd, by rw [hRR.out]; exact Sl.nil⟩
    obtain ⟨m, rfl⟩ : ∃ m : Nat, z = (m : Int) := ⟨z.toNat, by omega⟩
    have hkm : k0 = m + 1 := by omega
    subst hkm
    have hml : m ≤ x.length := by omega
    obtain ⟨q, hq⟩ : ∃ q, q = x.length - m := ⟨_, rfl⟩
    have hq' : (x.length : Int) - (m : Int) = (q : Int) := by omega
    have hqx : q ≤ x.length := by omega
    have hwq : IntKind.i64.wrap (q : Int) = (q : Int) := by simp [IntKind.wrap, IntKind.bits, IntKind.signed]; omega
    obtain ⟨B, mB, dB, hct, hcl⟩ := tail_ints (A := A') (c := c') (xs := x) hqx hmx
    have hxe := fun (W : World) (kk : Bw w W) => hcl W _ (hx.after kk)
    have hq0 := Lib.hid hq
    clear hq hcl hk0 hzk hz
    have BSC := Lib.hid (fun (W : World) (kk : Bw w W) => bsearch_any (h.after kk) (hxe W kk) hs)
    go_wp2_with fail
    with_reducible refine (BSC.out _ hd).mono ?_
    rintro e w2 ⟨k, b, rfl, hBS, hb2⟩
    have hBS := Lib.hid hBS
    have hd2 := hd.then hb2
    clear BSC
    cases b
    · have hnone := atW_none hs hBS.out rfl
      have hno2 : Hid (∀ j, m ≤ j → j ≤ x.length → atW g (x.drop (x.length - j)) = []) := fun j h1 h2 => by
        by_cases e : j = m
        · subst e; rw [← hq0.out]; exact hnone
        · exact hno.out j (by omega) h2
      clear hnone hno hBS
      go_wp2_with fail
      exact ⟨⟨(m : Int) - 1, m, rfl, by go_num, by omega, by omega, hd2, hno2⟩, by simp [intOf] <;> omega⟩
    have hkg := hBS.out.le
    have hne : atW g (x.drop q) ≠ [] := by
      obtain ⟨y, hy, hyx⟩ := hBS.out.found.1 rfl
      exact List.ne_nil_of_mem (atW_mem.2 ⟨List.mem_of_getElem? hy, hyx⟩)
    have hEnd : Hid (endF g x x.length = atW g (x.drop q)) := by
      show _ = _
      rw [hq0.out] at hne ⊢
      exact endF_at hne x.length hml fun j h1 h2 => hno.out j (by omega) h2
    clear hno
    go_wp2_with fail
    rename World => W2
    have hsl2 := fun (W : World) (kk : Bw w W) => hxe W kk
    have HB2 := Lib.hid hd2
    have Hbs := Lib.hid hBS
    clear hd2
    go_loopw [4, 8] (fun l a wr => ∃ p : Nat, k ≤ p ∧ p ≤ g.length ∧ a = .int .i64 p ∧ Bw w wr ∧ Acc tEn 37 wr w.heap.size l ((g.drop k).take (p - k)) ∧ Hid (∀ j y, k ≤ j → j < p → g[j]? = some y → y.1 = x.drop q)) (fun _ a _ => g.length - (intOf a).toNat)
    case atStart => exact ⟨k, Nat.le_refl _, hkg, rfl, HB2.out, by rw [Nat.sub_self, List.take_zero]; exact Acc.nil _ _, fun j y h1 h2 => absurd h2 (by omega)⟩
    case round =>
      obtain ⟨p, hkp, hpg, rfl, hdw, hA, hall⟩ := hrel
      by_cases hlt : p < g.length
      · obtain ⟨b, off, y, u1, rfl, hy, hys, hyc, hu, e0, e1, e2⟩ := (h.after hdw).en hlt
        obtain ⟨A1, n1, c1, rfl, _, _, _⟩ := hu.form'
        have hu := hu.rd
        cases hsm : same y.1 (x.drop q)
        · have H3 : ∀ z, g[p]? = some z → z.1 ≠ x.drop q := fun z hz e => by
            rw [hy.out] at hz; injection hz with hz; subst hz
            unfold same at hsm
            rw [decide_eq_false_iff_not] at hsm
            exact hsm e
          have H3 := Lib.hid H3
          have HEQ := Lib.hid (val_of (congrArg Value.bool hsm) (equal_any hu (hsl2 _ hdw)))
          clear hsm
          go_wp2_with fail
          with_reducible refine HEQ.out.mono ?_
          rintro e w3 ⟨rfl, n3, rfl⟩
          have hA := hA.dn n3
          have hdw3 : Bw w (wr.drewN n3) := hdw.then (Dr.n _ _).bw
          clear HEQ hu e0 e1 e2
          have hE : (g.drop k).take (p - k) = atW g (x.drop q) := (atW_side hs hkp hpg hBS.out.lo hall.out H3.out hBS.out.hi).symm
          rw [hE] at hA
          have HS := Lib.hid (hST (x.drop q) hne u4 w.heap.size _ hA)
          clear hA hE
          go_wp2_with fail
          with_reducible refine HS.out.mono ?_
          rintro e w5 ⟨rfl, hA5, gg, hgg, hgr⟩
          have hA5 := hA5.hi
          have hb5 : Bw w w5 := bw_grown hdw3 hgr hgg
          have hRR : Hid (guessP g x = (sortL (atW g (x.drop q)), 0)) := by show _ = _; rw [hR.out, hEnd.out, if_neg hne]
          clear HS
          go_wp2_with fail
          go_ret2
          exact ⟨u4, by rw [hRR.out]; rfl, hb5, by rw [hRR.out]; exact hA5⟩
        · have hyx : Hid (y.1 = x.drop q) := by show _ = _; unfold same at hsm; rw [decide_eq_true_iff] at hsm; exact hsm
          have HEQ := Lib.hid (val_of (congrArg Value.bool hsm) (equal_any hu (hsl2 _ hdw)))
          clear hsm
          have hyl : y.1.length ≤ 1000000 := by
            have hok := validG_mem hv (List.mem_of_getElem? hy.out)
            unfold okE wordB at hok
            simp at hok
            omega
          have hown := hA.own
          have hsz0 := hdw.size
          have hln : ((g.drop k).take (p - k)).length = p - k := by rw [List.length_take, List.length_drop]; omega
          have hsnoc : Hid ((g.drop k).take (p + 1 - k) = (g.drop k).take (p - k) ++ [y]) := by
            show _ = _
            rw [show p + 1 - k = (p - k) + 1 by omega, List.take_add_one, List.getElem?_drop, show k + (p - k) = p by omega, hy.out]; rfl
          go_wp2_with fail
          with_reducible refine HEQ.out.mono ?_
          rintro e w3 ⟨rfl, hd3⟩
          have hb3 := hd3.bw
          have e0 := bw_cell hb3 e0
          have e1 := bw_cell hb3 e1
          have e2 := bw_cell hb3 e2
          have hA := hA.after hb3
          have hown := hA.own
          have hu := hu.after hb3
          have hdw := hdw.then hb3
          have hsz0 := hdw.size
          clear HEQ
          go_wp2_with fail
          obtain ⟨wX, hwX⟩ : ∃ wX, wX = w3.alloc (.cells #[.slice A1 n1 c1, .string y.2.1, .int .i64 y.2.2] 37) := ⟨_, rfl⟩
          have hbX : Bw w3 wX := by rw [hwX]; exact bw_refl_al _ _
          have hbX' : Bw w3 wX := hbX
          have rowX : wX.heap[w3.heap.size]? = some (.cells #[.slice A1 n1 c1, .string y.2.1, .int .i64 y.2.2] 37) := by rw [hwX]; exact at_new rfl
          have hszX : wX.heap.size = w3.heap.size + 1 := by rw [hwX]; simp
          rw [← hwX]
          clear hwX
          with_reducible refine (clone_any (hu.after hbX') hyl).mono ?_
          rintro e w4 ⟨u', rfl, hb4, hu'⟩
          obtain ⟨P, n', c', rfl, _, _, _⟩ := hu'.form'
          have row4 := row_bw hb4 rowX
          have d4f := frozen_of_cells (i := 0) row4
          have row5 := set3_0 (v := .slice P n' c') row4
          have d40 := row3_0 row4
          have d50 := row3_0 row5
          have d51 := row3_1 row5
          have d52 := row3_2 row5
          have hb5 : Bw w3 (w4.setCell ⟨w3.heap.size, 0, none⟩ (.slice P n' c')) := bw_grown (hbX'.then hb4) (set_grown _ _ _ _) (Nat.le_refl _)
          have hsz4 := hb4.size
          have hA6 : Acc tEn 37 ((w4.setCell ⟨w3.heap.size, 0, none⟩ (.slice P n' c')).alloc (.cells #[.slice P n' c', .string y.2.1, .int .i64 y.2.2] 37)) w.heap.size u4 ((g.drop k).take (p - k)) := hA.after (bw_al hb5 _)
          have hrep : tEn.rep ((w4.setCell ⟨w3.heap.size, 0, none⟩ (.slice P n' c')).alloc (.cells #[.slice P n' c', .string y.2.1, .int .i64 y.2.2] 37)) (fun b => w.heap.size ≤ b ∧ some b ≠ u4.ownBlock) [.slice P n' c', .string y.2.1, .int .i64 y.2.2] y :=
            en_mk (hu'.lt.keep fun b hb => ⟨⟨by have h1 : wX.heap.size ≤ b := hb.1; omega, fun e => by have := (hown b e.symm).2; have h1 : wX.heap.size ≤ b := hb.1; omega⟩, (Below.heap_alloc _ _ b (by simpa [World.setCell] using hb.2)).trans (set_old (by have h1 : wX.heap.size ≤ b := hb.1; omega))⟩) (by simpa [maxLen] using hys) hyc
          have hbA : Bw w ((w4.setCell ⟨w3.heap.size, 0, none⟩ (.slice P n' c')).alloc (.cells #[.slice P n' c', .string y.2.1, .int .i64 y.2.2] 37)) := hdw.then (bw_al hb5 _)
          have hszA := hbA.size
          clear hA hu' hu e0 e1 e2 rowX
          go_wp2_with (at_builtin; refine wpList_app_one (T := tEn) rfl _ _ rfl Tryd.underlying28 hi hz0 hz1 hz2 rfl rfl hA6 rfl (at_new (by simp [World.setCell])) hrep (by rw [hln]; simp [maxLen]; omega) (by rw [hln]; omega) hszA ?_; intro v7 w7 hA7 hg7 hat7)
          have hb7 : Bw w w7 := Acc.bw hbA hg7 (fun g e => (hown g e).1) (Nat.le_refl _)
          rw [← hsnoc.out] at hA7
          exact ⟨⟨p + 1, by omega, hlt, by go_num, hb7, hA7, fun j z h1 h2 hz => by
            by_cases e : j = p
            · subst e; rw [hy.out] at hz; injection hz with hz; subst hz; exact hyx.out
            · exact hall.out j z h1 (by omega) hz⟩, by simp [intOf]; omega⟩
      · have hdw3 := hdw
        have H3 : Hid (∀ z, g[p]? = some z → z.1 ≠ x.drop q) := fun z hz => absurd (List.getElem?_eq_some_iff.1 hz).1 hlt
        have hpl : ¬ ((p : Int) < (g.length : Int)) := by omega
        have hE : (g.drop k).take (p - k) = atW g (x.drop q) := (atW_side hs hkp hpg hBS.out.lo hall.out H3.out hBS.out.hi).symm
        rw [hE] at hA
        have HS := Lib.hid (hST (x.drop q) hne u4 w.heap.size _ hA)
        clear hA hE
        go_wp2_with fail
        with_reducible refine HS.out.mono ?_
        rintro e w5 ⟨rfl, hA5, gg, hgg, hgr⟩
        have hA5 := hA5.hi
        have hb5 : Bw w w5 := bw_grown hdw3 hgr hgg
        have hRR : Hid (guessP g x = (sortL (atW g (x.drop q)), 0)) := by show _ = _; rw [hR.out, hEnd.out, if_neg hne]
        clear HS
        go_wp2_with fail
        go_ret2
        exact ⟨u4, by rw [hRR.out]; rfl, hb5, by rw [hRR.out]; exact hA5⟩
end Go.Proofs.YtonadloonidmjaaDoor

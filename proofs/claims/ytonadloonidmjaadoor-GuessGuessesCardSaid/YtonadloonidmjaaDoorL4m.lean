/- Several texts in one: HL, L4. Conditions: as each theorem says. -/
import Derived.Test.YtonadloonidmjaaDoorM1
import Derived.Test.YtonadloonidmjaaDoorM2
import Derived.Test.YtonadloonidmjaaDoorM3
import Derived.Test.YtonadloonidmjaaDoorGB
namespace Go.Proofs.YtonadloonidmjaaDoor
open Go.RowKit
open Pl

theorem grown_bwM {a b : World} (h : Bw a b) (r : Option Nat) : a.grownBy b r := ⟨h.os, h.tape, h.output, h.size, fun k hk _ => h.block k hk⟩
theorem wrapM {n : Nat} (h : n ≤ 9000000) : IntKind.i64.wrap (n : Int) = (n : Int) := by simp [IntKind.wrap, IntKind.bits, IntKind.signed]; omega
set_option linter.unusedSimpArgs false in
set_option maxRecDepth 100000 in
set_option maxHeartbeats 32000000 in
theorem rguess_any {v u : Value} {g : List En} {x : List Int} {w : World} (h : Rd tEn w v g) (hx : Rd tInt w u x) : Calls Tryd.prog 19 #[v, u] w (GuessR g x w) := by
  have hmx := hx.len_le
  obtain ⟨A0, N, c0, rfl, hNc, hc, hN⟩ := h.form'
  obtain ⟨A', c', rfl, _, _⟩ := hx.form
  obtain ⟨i0, hi, hz0, hz1, hz2⟩ := info_parts infoI
  obtain ⟨j0, hj, hy0, hy1, hy2⟩ := info_parts infoE
  cases hv : validG g
  · have hR : Hid (guessP g x = ([], 1)) := by show _ = _; unfold guessP; rw [hv]; rfl
    go_enter Tryd.func19, Tryd.ntmps19
    go_wp2_with (go_at_call 40; (with_reducible refine (val_of (congrArg Value.bool hv) (rvalid_any h)).mono ?_); rintro e w1 ⟨rfl, hb1⟩)
    go_ret2
    exact ⟨.slice none 0 0, by rw [hR.out]; rfl, hb1, by rw [hR.out]; exact Sl.nil⟩
  cases hw : wordB x
  · have hR : Hid (guessP g x = ([], 1)) := by show _ = _; unfold guessP; rw [hv, hw]; rfl
    go_enter Tryd.func19, Tryd.ntmps19
    go_wp2_with (first | (go_at_call 40; (with_reducible refine (val_of (congrArg Value.bool hv) (rvalid_any h)).mono ?_); rintro e w1 ⟨rfl, hb1⟩) | (go_at_call 41; (with_reducible refine (val_of (congrArg Value.bool hw) (rword_any (hx.after hb1))).mono ?_); rintro e w2 ⟨rfl, n, rfl⟩))
    go_ret2
    exact ⟨.slice none 0 0, by rw [hR.out]; rfl, hb1.then (Dr.n _ _).bw, by rw [hR.out]; exact Sl.nil⟩
  have hR : Hid (guessP g x = if endF g x x.length = [] then ([], 4) else (sortL (endF g x x.length), 0)) := by show _ = _; unfold guessP; rw [hv, hw]; rfl
  have hs := validG_sorted hv
  have hgl := validG_len hv
  have hNl : N ≤ 30000 := by have := hN.out; omega
  have HY : Hid (∀ y ∈ g, y.1.length ≤ 1000000) := fun y hy => by
    have hok := validG_mem hv hy
    unfold okE wordB at hok
    simp at hok
    omega
  have HDT : Hid (∀ k y, Dt (atW (g.take k) y)) := fun k y => atW_Dt (SK_take hs k) y
  go_enter Tryd.func19, Tryd.ntmps19
  go_wp2_with (first | (go_at_call 40; (with_reducible refine (val_of (congrArg Value.bool hv) (rvalid_any h)).mono ?_); rintro e w1 ⟨rfl, hb1⟩) | (go_at_call 41; (with_reducible refine (val_of (congrArg Value.bool hw) (rword_any (hx.after hb1))).mono ?_); rintro e w2 ⟨rfl, n, rfl⟩))
  have hb1n : Bw w (w1.drewN n) := hb1.then (Dr.n _ _).bw
  clear hs hgl hv hw hb1
  go_loopw [6] (fun i wr => ∃ (z : Int) (k : Nat), i = .int .i64 z ∧ z + 1 = (k : Int) ∧ k ≤ x.length + 1 ∧ Bw w wr ∧ Hid (∀ j, k ≤ j → j ≤ x.length → atW g (x.drop (x.length - j)) = [])) (fun i _ => (intOf i + 1).toNat)
  case atStart => exact ⟨x.length, x.length + 1, rfl, by omega, Nat.le_refl _, hb1n, fun j h1 h2 => absurd h2 (by omega)⟩
  case round =>
    obtain ⟨z, k0, rfl, hzk, hk0, hd, hno⟩ := hrel
    by_cases hz : z < 0
    · have hz' : ¬ (0 : Int) ≤ z := by omega
      have hRR : Hid (guessP g x = ([], 4)) := by show _ = _; rw [hR.out, if_pos (endF_of x.length fun j hj => hno.out j (by omega) hj)]
      go_wp2_with fail
      go_ret2
      exact ⟨.slice none 0 0, by rw [hRR.out]; rfl, hd, by rw [hRR.out]; exact Sl.nil⟩
    obtain ⟨m, rfl⟩ : ∃ m : Nat, z = (m : Int) := ⟨z.toNat, by omega⟩
    have hkm : k0 = m + 1 := by omega
    subst hkm
    have hml : m ≤ x.length := by omega
    obtain ⟨q, hq⟩ : ∃ q, q = x.length - m := ⟨_, rfl⟩
    have hq' : (x.length : Int) - (m : Int) = (q : Int) := by omega
    have hqx : q ≤ x.length := by omega
    have hwq : IntKind.i64.wrap (q : Int) = (q : Int) := by simp [IntKind.wrap, IntKind.bits, IntKind.signed]; omega
    obtain ⟨B, mB, dB, hct, hcl⟩ := tail_ints (A := A') (c := c') (xs := x) hqx hmx
    have HXE := Lib.hid (fun (W : World) (kk : Bw w W) => hcl W _ (hx.after kk))
    have hq0 := Lib.hid hq
    have hzk2 : (m : Int) + 1 = ((m + 1 : Nat) : Int) := by omega
    clear hq hcl hzk hz
    go_wp2_with fail
    rename World => W2
    go_loopw [7, 8] (fun o i wq => ∃ k : Nat, k ≤ N ∧ i = .int .i64 k ∧ Bw w wq ∧ Acc tEn 37 wq w.heap.size o (sortL (atW (g.take k) (x.drop q)))) (fun _ i _ => N - (intOf i).toNat)
    case atStart => exact ⟨0, Nat.zero_le _, rfl, hd, by exact Acc.nil _ _⟩
    case round =>
      obtain ⟨k, hk, rfl, hdw, hA⟩ := hrel
      by_cases hlt : k < N
      rotate_left
      · have hkN : k = N := by omega
        subst hkN
        have hall : g.take k = g := List.take_of_length_le (by have := hN.out; omega)
        rw [hall] at hA
        have hsl := sortL_len (by have h1 := HDT.out k (x.drop q); rw [hall] at h1; exact h1)
        obtain ⟨Ao, no, co, rfl, _, _, hno2⟩ := hA.sl.form'
        by_cases hne : atW g (x.drop q) = []
        · have h0 : no = 0 := by have := hno2.out; rw [this, hsl, hne]; rfl
          subst h0
          have HN2 : Hid (∀ j, m ≤ j → j ≤ x.length → atW g (x.drop (x.length - j)) = []) := fun j h1 h2 => by
            by_cases e : j = m
            · subst e; rw [← hq0.out]; exact hne
            · exact hno.out j (by omega) h2
          clear hA hall hno hno2 hsl hne HXE
          go_wp2_with fail
          exact ⟨⟨(m : Int) - 1, m, by go_num, by omega, by omega, hdw, HN2⟩, by simp [intOf] <;> omega⟩
        · have h0 : 0 < no := by
            have := hno2.out
            rw [hsl] at this
            rcases Nat.eq_zero_or_pos (atW g (x.drop q)).length with h | h
            · exact absurd (List.eq_nil_of_length_eq_zero h) hne
            · omega
          have h0i : (0 : Int) < (no : Int) := by omega
          have hEnd : endF g x x.length = atW g (x.drop q) := by
            rw [hq0.out] at hne ⊢
            exact endF_at hne x.length hml fun j h1 h2 => hno.out j (by omega) h2
          have hRR : Hid (guessP g x = (sortL (atW g (x.drop q)), 0)) := by show _ = _; rw [hR.out, hEnd, if_neg hne]
          have hAh := Lib.hid hA.hi
          clear hA hall hno hno2 hsl hne HXE hEnd
          go_wp2_with fail
          go_ret2
          exact ⟨_, by rw [hRR.out]; rfl, hdw, by rw [hRR.out]; exact hAh.out⟩
      obtain ⟨b, off, y, u1, rfl, hy, hys, hyc, hu, e0, e1, e2⟩ := (h.after hdw).en (k := k) (by have := hN.out; omega)
      obtain ⟨A1, n1, c1, rfl, _, _, _⟩ := hu.form'
      have hu := hu.rd
      have HU := Lib.hid hu
      have HS := Lib.hid (fun (W : World) (kk : Bw wr W) => sameInts_any (hu.after kk) (HXE.out W (hdw.then kk)))
      have K0 : ∀ W, Bw wr W → W.cell? ⟨b, off + k * 3, none⟩ = some (.slice A1 n1 c1) := fun W kk => bw_cell kk e0
      cases hsm : same y.1 (x.drop q)
      · have hsn : Hid (atW (g.take (k + 1)) (x.drop q) = atW (g.take k) (x.drop q)) := by
          show _ = _
          unfold same at hsm
          rw [decide_eq_false_iff_not] at hsm
          rw [atW_snoc hy.out, if_neg hsm, List.append_nil]
        rw [hsm] at HS
        have HA := Lib.hid hA
        clear hu hsm hA e0 e1 e2
        go_wp2_with fail
        refine wp_region_held_drew (S := fun u => u.cell? ⟨b, off + k * 3, none⟩ = some (.slice A1 n1 c1)) (by kernel_rfl) ?_ (fun hHeld => ?_)
        · exact K0 _ (Bw.drew (Below.refl _ _))
        refine wpAnyH_take (i := 0) (oi := { dst := some 31, op := Go.Op.move (Go.Operand.tmp 0), type := 28, pos := "ref.go:111", after := #[], guard := none }) (v := ?v1) rfl (by kernel_rfl) (by kernel_rfl) (by kernel_rfl) (fun _ _ _ h => h) (Or.inl ⟨by rfl, ?hy1⟩) (by assumption) ?_
        case hy1 => (intro w hSw; (try dsimp only at hSw); go_simp; try with_reducible rfl)
        try simp only [Act.put, List.setIfInBounds_toArray, List.set_cons_zero, List.set_cons_succ]
        refine wpAnyH_take (i := 1) (oi := { dst := some 32, op := Go.Op.move (Go.Operand.tmp 8), type := 3, pos := "ref.go:111", after := #[], guard := none }) (v := ?v2) rfl (by kernel_rfl) (by kernel_rfl) (by kernel_rfl) (fun _ _ _ h => h) (Or.inl ⟨by rfl, ?hy2⟩) (by assumption) ?_
        case hy2 => (intro w hSw; (try dsimp only at hSw); go_simp; try with_reducible rfl)
        try simp only [Act.put, List.setIfInBounds_toArray, List.set_cons_zero, List.set_cons_succ]
        refine wpAnyH_take (i := 2) (oi := { dst := some 33, op := Go.Op.indexAddr 28 (Go.Operand.tmp 31) (Go.Operand.tmp 32), type := 0, pos := "ref.go:111", after := #[{ on := 0, ground := Go.Ground.data }, { on := 1, ground := Go.Ground.data }], guard := none }) (v := ?v3) rfl (by kernel_rfl) (by kernel_rfl) (by kernel_rfl) (fun _ _ _ h => h) (Or.inl ⟨by rfl, ?hy3⟩) (by assumption) ?_
        case hy3 => (intro w hSw; (try dsimp only at hSw); go_simp; try with_reducible rfl)
        try simp only [Act.put, List.setIfInBounds_toArray, List.set_cons_zero, List.set_cons_succ]
        refine wpAnyH_take (i := 3) (oi := { dst := some 34, op := Go.Op.fieldAddr 37 (Go.Operand.tmp 33) 0, type := 0, pos := "ref.go:111", after := #[{ on := 2, ground := Go.Ground.data }], guard := none }) (v := ?v4) rfl (by kernel_rfl) (by kernel_rfl) (by kernel_rfl) (fun _ _ _ h => h) (Or.inl ⟨by rfl, ?hy4⟩) (by assumption) ?_
        case hy4 => (intro w hSw; (try dsimp only at hSw); go_simp; try with_reducible rfl)
        try simp only [Act.put, List.setIfInBounds_toArray, List.set_cons_zero, List.set_cons_succ]
        refine wpAnyH_take (i := 4) (oi := { dst := some 35, op := Go.Op.load 25 (Go.Operand.tmp 34), type := 25, pos := "ref.go:111", after := #[{ on := 3, ground := Go.Ground.data }], guard := none }) (v := ?v5) rfl (by kernel_rfl) (by kernel_rfl) (by kernel_rfl) (fun _ _ _ h => h) (Or.inl ⟨by rfl, ?hy5⟩) (by assumption) ?_
        case hy5 => (intro w hSw; (try dsimp only at hSw); go_simp; try with_reducible rfl)
        try simp only [Act.put, List.setIfInBounds_toArray, List.set_cons_zero, List.set_cons_succ]
        refine wpAnyH_take (i := 5) (oi := { dst := some 36, op := Go.Op.move (Go.Operand.tmp 1), type := 25, pos := "ref.go:111", after := #[], guard := none }) (v := ?v6) rfl (by kernel_rfl) (by kernel_rfl) (by kernel_rfl) (fun _ _ _ h => h) (Or.inl ⟨by rfl, ?hy6⟩) (by assumption) ?_
        case hy6 => (intro w hSw; (try dsimp only at hSw); go_simp; try with_reducible rfl)
        try simp only [Act.put, List.setIfInBounds_toArray, List.set_cons_zero, List.set_cons_succ]
        refine wpAnyH_take (i := 6) (oi := { dst := some 37, op := Go.Op.move (Go.Operand.tmp 1), type := 25, pos := "ref.go:111", after := #[], guard := none }) (v := ?v7) rfl (by kernel_rfl) (by kernel_rfl) (by kernel_rfl) (fun _ _ _ h => h) (Or.inl ⟨by rfl, ?hy7⟩) (by assumption) ?_
        case hy7 => (intro w hSw; (try dsimp only at hSw); go_simp; try with_reducible rfl)
        try simp only [Act.put, List.setIfInBounds_toArray, List.set_cons_zero, List.set_cons_succ]
        refine wpAnyH_take (i := 7) (oi := { dst := some 38, op := Go.Op.call { callee := Go.Callee.builtin Go.Builtin.len, args := #[Go.Operand.tmp 37], argTypes := #[25] }, type := 3, pos := "ref.go:111", after := #[{ on := 6, ground := Go.Ground.data }], guard := none }) (v := ?v8) rfl (by kernel_rfl) (by kernel_rfl) (by kernel_rfl) (fun _ _ _ h => h) (Or.inl ⟨by rfl, ?hy8⟩) (by assumption) ?_
        case hy8 => (intro w hSw; (try dsimp only at hSw); go_simp; try with_reducible rfl)
        try simp only [Act.put, List.setIfInBounds_toArray, List.set_cons_zero, List.set_cons_succ]
        refine wpAnyH_take (i := 8) (oi := { dst := some 39, op := Go.Op.move (Go.Operand.tmp 6), type := 3, pos := "ref.go:111", after := #[], guard := none }) (v := ?v9) rfl (by kernel_rfl) (by kernel_rfl) (by kernel_rfl) (fun _ _ _ h => h) (Or.inl ⟨by rfl, ?hy9⟩) (by assumption) ?_
        case hy9 => (intro w hSw; (try dsimp only at hSw); go_simp; try with_reducible rfl)
        try simp only [Act.put, List.setIfInBounds_toArray, List.set_cons_zero, List.set_cons_succ]
        refine wpAnyH_take (i := 9) (oi := { dst := some 40, op := Go.Op.binOp Go.BinOp.sub 3 (Go.Operand.tmp 38) (Go.Operand.tmp 39) 3, type := 3, pos := "ref.go:111", after := #[{ on := 7, ground := Go.Ground.data }, { on := 8, ground := Go.Ground.data }], guard := none }) (v := Value.int .i64 (q : Int)) rfl (by kernel_rfl) (by kernel_rfl) (by kernel_rfl) (fun _ _ _ h => h) (Or.inl ⟨by rfl, ?hy10⟩) (by assumption) ?_
        case hy10 => (intro w hSw; (try dsimp only at hSw); go_simp)
        try simp only [Act.put, List.setIfInBounds_toArray, List.set_cons_zero, List.set_cons_succ]
        refine wpAnyH_take (i := 10) (oi := { dst := some 41, op := Go.Op.slice 25 (Go.Operand.tmp 36) (some (Go.Operand.tmp 40)) none none, type := 25, pos := "ref.go:111", after := #[{ on := 5, ground := Go.Ground.data }, { on := 9, ground := Go.Ground.data }], guard := none }) (v := Value.slice B mB dB) rfl (by kernel_rfl) (by kernel_rfl) (by kernel_rfl) (fun _ _ _ h => h) (Or.inl ⟨by rfl, ?hy11⟩) (by assumption) ?_
        case hy11 => (intro w hSw; exact y_slice25 _ _ rfl rfl rfl (hct w))
        try simp only [Act.put, List.setIfInBounds_toArray, List.set_cons_zero, List.set_cons_succ]
        refine wpAnyH_ready (rs := [11]) (by kernel_rfl) (by simp) ?_
        refine (AllReadyH.cons (i := 11) (o := { dst := some 42, op := Go.Op.call { callee := Go.Callee.value (Go.Operand.func 20), args := #[Go.Operand.tmp 35, Go.Operand.tmp 41], argTypes := #[25, 25] }, type := 4, pos := "ref.go:111", after := #[{ on := 4, ground := Go.Ground.data }, { on := 10, ground := Go.Ground.data }], guard := none }) rfl (fun K' hK' => ?_) AllReadyH.nil)
        go_simp
        with_reducible refine (HS.out _ (Bw.drew (Below.refl _ _))).mono ?_
        rintro e wA ⟨rfl, hdA⟩
        have hbA' := (Bw.drew (Below.refl _ wr)).then hdA.bw
        try dsimp only
        refine hK'.out _ _ ?_ (fun hHeld => ?_)
        · exact K0 _ hbA'
        clear hK' K'
        try simp only [Act.put, List.setIfInBounds_toArray, List.set_cons_zero, List.set_cons_succ]
        refine wpAnyH_take (i := 12) (oi := { dst := some 43, op := Go.Op.unOp Go.UnOp.not 4 (Go.Operand.tmp 42), type := 4, pos := "ref.go:111", after := #[{ on := 11, ground := Go.Ground.data }], guard := none }) (v := Value.bool true) rfl (by kernel_rfl) (by kernel_rfl) (by kernel_rfl) (fun _ _ _ h => h) (Or.inl ⟨by rfl, ?hy12⟩) (by assumption) ?_
        case hy12 => (intro w hSw; (try dsimp only at hSw); go_simp)
        try simp only [Act.put, List.setIfInBounds_toArray, List.set_cons_zero, List.set_cons_succ]
        refine wpAnyH_done (by kernel_rfl) ?_ _
        have hAA := HA.out.after hbA'
        rw [← hsn.out] at hAA
        have hdB := hdw.then hbA'
        clear HA HS K0 HU
        go_wp2_with fail
        exact ⟨⟨k + 1, hlt, by go_num, hdB, hAA⟩, by simp [intOf]; omega⟩
      have hsn : Hid (atW (g.take (k + 1)) (x.drop q) = atW (g.take k) (x.drop q) ++ [y]) := by
        show _ = _
        unfold same at hsm
        rw [decide_eq_true_iff] at hsm
        rw [atW_snoc hy.out, if_pos hsm]
      have HD1 : Hid (Dt (atW (g.take k) (x.drop q) ++ [y])) := by
        have h1 := HDT.out (k + 1) (x.drop q)
        rwa [hsn.out] at h1
      have hol : (sortL (atW (g.take k) (x.drop q))).length ≤ 30000 := by
        have h1 := sortL_len (HDT.out k (x.drop q))
        have h2 := atW_len (g.take k) (x.drop q)
        have h3 : (g.take k).length ≤ k := by rw [List.length_take]; omega
        omega
      have hyl := HY.out y (List.mem_of_getElem? hy.out)
      obtain ⟨out, hout⟩ : ∃ out, out = sortL (atW (g.take k) (x.drop q)) := ⟨_, rfl⟩
      rw [← hout] at hA hol
      have HO := Lib.hid hout
      rw [hsm] at HS
      have HA := Lib.hid hA
      have E1 := Lib.hid (fun (W : World) (kk : Bw wr W) => bw_cell kk e1)
      have E2 := Lib.hid (fun (W : World) (kk : Bw wr W) => bw_cell kk e2)
      clear hu hsm hA hout e0 e1 e2
      go_wp2_with fail
      refine wp_region_held_drew (S := fun u => u.cell? ⟨b, off + k * 3, none⟩ = some (.slice A1 n1 c1)) (by kernel_rfl) ?_ (fun hHeld => ?_)
      · exact K0 _ (Bw.drew (Below.refl _ _))
      refine wpAnyH_take (i := 0) (oi := { dst := some 31, op := Go.Op.move (Go.Operand.tmp 0), type := 28, pos := "ref.go:111", after := #[], guard := none }) (v := ?v13) rfl (by kernel_rfl) (by kernel_rfl) (by kernel_rfl) (fun _ _ _ h => h) (Or.inl ⟨by rfl, ?hy13⟩) (by assumption) ?_
      case hy13 => (intro w hSw; (try dsimp only at hSw); go_simp; try with_reducible rfl)
      try simp only [Act.put, List.setIfInBounds_toArray, List.set_cons_zero, List.set_cons_succ]
      refine wpAnyH_take (i := 1) (oi := { dst := some 32, op := Go.Op.move (Go.Operand.tmp 8), type := 3, pos := "ref.go:111", after := #[], guard := none }) (v := ?v14) rfl (by kernel_rfl) (by kernel_rfl) (by kernel_rfl) (fun _ _ _ h => h) (Or.inl ⟨by rfl, ?hy14⟩) (by assumption) ?_
      case hy14 => (intro w hSw; (try dsimp only at hSw); go_simp; try with_reducible rfl)
      try simp only [Act.put, List.setIfInBounds_toArray, List.set_cons_zero, List.set_cons_succ]
      refine wpAnyH_take (i := 2) (oi := { dst := some 33, op := Go.Op.indexAddr 28 (Go.Operand.tmp 31) (Go.Operand.tmp 32), type := 0, pos := "ref.go:111", after := #[{ on := 0, ground := Go.Ground.data }, { on := 1, ground := Go.Ground.data }], guard := none }) (v := ?v15) rfl (by kernel_rfl) (by kernel_rfl) (by kernel_rfl) (fun _ _ _ h => h) (Or.inl ⟨by rfl, ?hy15⟩) (by assumption) ?_
      case hy15 => (intro w hSw; (try dsimp only at hSw); go_simp; try with_reducible rfl)
      try simp only [Act.put, List.setIfInBounds_toArray, List.set_cons_zero, List.set_cons_succ]
      refine wpAnyH_take (i := 3) (oi := { dst := some 34, op := Go.Op.fieldAddr 37 (Go.Operand.tmp 33) 0, type := 0, pos := "ref.go:111", after := #[{ on := 2, ground := Go.Ground.data }], guard := none }) (v := ?v16) rfl (by kernel_rfl) (by kernel_rfl) (by kernel_rfl) (fun _ _ _ h => h) (Or.inl ⟨by rfl, ?hy16⟩) (by assumption) ?_
      case hy16 => (intro w hSw; (try dsimp only at hSw); go_simp; try with_reducible rfl)
      try simp only [Act.put, List.setIfInBounds_toArray, List.set_cons_zero, List.set_cons_succ]
      refine wpAnyH_take (i := 4) (oi := { dst := some 35, op := Go.Op.load 25 (Go.Operand.tmp 34), type := 25, pos := "ref.go:111", after := #[{ on := 3, ground := Go.Ground.data }], guard := none }) (v := ?v17) rfl (by kernel_rfl) (by kernel_rfl) (by kernel_rfl) (fun _ _ _ h => h) (Or.inl ⟨by rfl, ?hy17⟩) (by assumption) ?_
      case hy17 => (intro w hSw; (try dsimp only at hSw); go_simp; try with_reducible rfl)
      try simp only [Act.put, List.setIfInBounds_toArray, List.set_cons_zero, List.set_cons_succ]
      refine wpAnyH_take (i := 5) (oi := { dst := some 36, op := Go.Op.move (Go.Operand.tmp 1), type := 25, pos := "ref.go:111", after := #[], guard := none }) (v := ?v18) rfl (by kernel_rfl) (by kernel_rfl) (by kernel_rfl) (fun _ _ _ h => h) (Or.inl ⟨by rfl, ?hy18⟩) (by assumption) ?_
      case hy18 => (intro w hSw; (try dsimp only at hSw); go_simp; try with_reducible rfl)
      try simp only [Act.put, List.setIfInBounds_toArray, List.set_cons_zero, List.set_cons_succ]
      refine wpAnyH_take (i := 6) (oi := { dst := some 37, op := Go.Op.move (Go.Operand.tmp 1), type := 25, pos := "ref.go:111", after := #[], guard := none }) (v := ?v19) rfl (by kernel_rfl) (by kernel_rfl) (by kernel_rfl) (fun _ _ _ h => h) (Or.inl ⟨by rfl, ?hy19⟩) (by assumption) ?_
      case hy19 => (intro w hSw; (try dsimp only at hSw); go_simp; try with_reducible rfl)
      try simp only [Act.put, List.setIfInBounds_toArray, List.set_cons_zero, List.set_cons_succ]
      refine wpAnyH_take (i := 7) (oi := { dst := some 38, op := Go.Op.call { callee := Go.Callee.builtin Go.Builtin.len, args := #[Go.Operand.tmp 37], argTypes := #[25] }, type := 3, pos := "ref.go:111", after := #[{ on := 6, ground := Go.Ground.data }], guard := none }) (v := ?v20) rfl (by kernel_rfl) (by kernel_rfl) (by kernel_rfl) (fun _ _ _ h => h) (Or.inl ⟨by rfl, ?hy20⟩) (by assumption) ?_
      case hy20 => (intro w hSw; (try dsimp only at hSw); go_simp; try with_reducible rfl)
      try simp only [Act.put, List.setIfInBounds_toArray, List.set_cons_zero, List.set_cons_succ]
      refine wpAnyH_take (i := 8) (oi := { dst := some 39, op := Go.Op.move (Go.Operand.tmp 6), type := 3, pos := "ref.go:111", after := #[], guard := none }) (v := ?v21) rfl (by kernel_rfl) (by kernel_rfl) (by kernel_rfl) (fun _ _ _ h => h) (Or.inl ⟨by rfl, ?hy21⟩) (by assumption) ?_
      case hy21 => (intro w hSw; (try dsimp only at hSw); go_simp; try with_reducible rfl)
      try simp only [Act.put, List.setIfInBounds_toArray, List.set_cons_zero, List.set_cons_succ]
      refine wpAnyH_take (i := 9) (oi := { dst := some 40, op := Go.Op.binOp Go.BinOp.sub 3 (Go.Operand.tmp 38) (Go.Operand.tmp 39) 3, type := 3, pos := "ref.go:111", after := #[{ on := 7, ground := Go.Ground.data }, { on := 8, ground := Go.Ground.data }], guard := none }) (v := Value.int .i64 (q : Int)) rfl (by kernel_rfl) (by kernel_rfl) (by kernel_rfl) (fun _ _ _ h => h) (Or.inl ⟨by rfl, ?hy22⟩) (by assumption) ?_
      case hy22 => (intro w hSw; (try dsimp only at hSw); go_simp)
      try simp only [Act.put, List.setIfInBounds_toArray, List.set_cons_zero, List.set_cons_succ]
      refine wpAnyH_take (i := 10) (oi := { dst := some 41, op := Go.Op.slice 25 (Go.Operand.tmp 36) (some (Go.Operand.tmp 40)) none none, type := 25, pos := "ref.go:111", after := #[{ on := 5, ground := Go.Ground.data }, { on := 9, ground := Go.Ground.data }], guard := none }) (v := Value.slice B mB dB) rfl (by kernel_rfl) (by kernel_rfl) (by kernel_rfl) (fun _ _ _ h => h) (Or.inl ⟨by rfl, ?hy23⟩) (by assumption) ?_
      case hy23 => (intro w hSw; exact y_slice25 _ _ rfl rfl rfl (hct w))
      try simp only [Act.put, List.setIfInBounds_toArray, List.set_cons_zero, List.set_cons_succ]
      refine wpAnyH_ready (rs := [11]) (by kernel_rfl) (by simp) ?_
      refine (AllReadyH.cons (i := 11) (o := { dst := some 42, op := Go.Op.call { callee := Go.Callee.value (Go.Operand.func 20), args := #[Go.Operand.tmp 35, Go.Operand.tmp 41], argTypes := #[25, 25] }, type := 4, pos := "ref.go:111", after := #[{ on := 4, ground := Go.Ground.data }, { on := 10, ground := Go.Ground.data }], guard := none }) rfl (fun K' hK' => ?_) AllReadyH.nil)
      go_simp
      with_reducible refine (HS.out _ (Bw.drew (Below.refl _ _))).mono ?_
      rintro e wA ⟨rfl, hdA⟩
      have hbA' := (Bw.drew (Below.refl _ wr)).then hdA.bw
      try dsimp only
      refine hK'.out _ _ ?_ (fun hHeld => ?_)
      · exact K0 _ hbA'
      clear hK' K'
      try simp only [Act.put, List.setIfInBounds_toArray, List.set_cons_zero, List.set_cons_succ]
      refine wpAnyH_take (i := 12) (oi := { dst := some 43, op := Go.Op.unOp Go.UnOp.not 4 (Go.Operand.tmp 42), type := 4, pos := "ref.go:111", after := #[{ on := 11, ground := Go.Ground.data }], guard := none }) (v := Value.bool false) rfl (by kernel_rfl) (by kernel_rfl) (by kernel_rfl) (fun _ _ _ h => h) (Or.inl ⟨by rfl, ?hy24⟩) (by assumption) ?_
      case hy24 => (intro w hSw; (try dsimp only at hSw); go_simp)
      try simp only [Act.put, List.setIfInBounds_toArray, List.set_cons_zero, List.set_cons_succ]
      refine wpAnyH_done (by kernel_rfl) ?_ _
      have e0 := K0 _ hbA'
      have e1 := E1.out _ hbA'
      have e2 := E2.out _ hbA'
      have hA := HA.out.after hbA'
      have hdB := hdw.then hbA'
      have hu := HU.out.after hbA'
      have hszB := hdB.size
      clear HA HS K0 HU E1 E2 hdA hbA' hdw
      obtain ⟨no, hno3⟩ : ∃ no, no = out.length := ⟨_, rfl⟩
      have hno4 : no ≤ 30000 := by omega
      have Hno := Lib.hid hno3
      have hown := hA.own
      have hsW : (wA.alloc (.cells #[.slice A1 n1 c1, .string y.2.1, .int .i64 y.2.2] 37)).heap.size = wA.heap.size + 1 := sz_alloc _ _
      have hE : Acc tInt 3 ((wA.alloc (.cells #[.slice A1 n1 c1, .string y.2.1, .int .i64 y.2.2] 37)).alloc (.cells #[] 3)) (wA.heap.size + 1) (.slice (some ⟨wA.heap.size + 1, 0, none⟩) 0 0) [] := Acc.made (Nat.le_refl _) (at_new hsW.symm) (Nat.zero_le _) rfl
      have HP2 : Hid (∀ (w2 : World) (P2 : Option Addr) (m2 c2 : Nat), Bw (wA.alloc (.cells #[.slice A1 n1 c1, .string y.2.1, .int .i64 y.2.2] 37)) w2 → Sl tInt w2 (Hi (wA.heap.size + 1)) (.slice P2 m2 c2) y.1 →
          Bw w ((w2.setCell ⟨wA.heap.size, 0, none⟩ (.slice P2 m2 c2)).alloc (.cells #[.slice P2 m2 c2, .string y.2.1, .int .i64 y.2.2] 37)) ∧
          Acc tEn 37 ((w2.setCell ⟨wA.heap.size, 0, none⟩ (.slice P2 m2 c2)).alloc (.cells #[.slice P2 m2 c2, .string y.2.1, .int .i64 y.2.2] 37)) w.heap.size u7 out ∧
          tEn.rep ((w2.setCell ⟨wA.heap.size, 0, none⟩ (.slice P2 m2 c2)).alloc (.cells #[.slice P2 m2 c2, .string y.2.1, .int .i64 y.2.2] 37)) (fun b => w.heap.size ≤ b ∧ some b ≠ u7.ownBlock) [.slice P2 m2 c2, .string y.2.1, .int .i64 y.2.2] y) := fun w2 P2 m2 c2 hb2 hx2 => by
        have hb5 : Bw wA (w2.setCell ⟨wA.heap.size, 0, none⟩ (.slice P2 m2 c2)) := bw_grown ((bw_refl_al wA _).then hb2) (set_grown _ _ _ _) (Nat.le_refl _)
        exact ⟨hdB.then (bw_al hb5 _), hA.after (bw_al hb5 _), en_mk (hx2.lt.keep fun b hb => ⟨⟨by have h1 : wA.heap.size + 1 ≤ b := hb.1; omega, fun e => by have := (hown b e.symm).2; have h1 : wA.heap.size + 1 ≤ b := hb.1; omega⟩, (Below.heap_alloc _ _ b (by simpa [World.setCell] using hb.2)).trans (set_old (by have h1 : wA.heap.size + 1 ≤ b := hb.1; omega))⟩) (by simpa [maxLen] using hys) hyc⟩
      have hu2 := (hu.alloc (.cells #[.slice A1 n1 c1, .string y.2.1, .int .i64 y.2.2] 37)).alloc (.cells #[] 3)
      have hownw : ∀ k, u7.ownBlock = some k → w.heap.size ≤ k := fun k e => (hown k e).1
      clear hA hu hno3 hol hown
      go_wp2_with (first | (at_builtin; refine wpList_app_sl rfl _ _ rfl Tryd.underlying25 hi hz0 hz1 hz2 rfl rfl hE rfl hu2 int_free (by simp [maxLen]; omega) (by simp; omega) (by rw [sz_alloc, sz_alloc]; omega) ?_; intro v2 w2 hA2 hg2 hat2; obtain ⟨P2, m2, c2, rfl, _, _, _⟩ := hA2.sl.form'; have hb2 := Acc.bw (bw_refl_al (wA.alloc (.cells #[.slice A1 n1 c1, .string y.2.1, .int .i64 y.2.2] 37)) _) hg2 (fun g e => by rw [← own_sl e]; exact Nat.le_of_eq hsW) (Nat.le_refl _); have row4 := row_bw hb2 (at_new rfl : (wA.alloc (.cells #[.slice A1 n1 c1, .string y.2.1, .int .i64 y.2.2] 37)).heap[wA.heap.size]? = _); have d4f := frozen_of_cells (i := 0) row4; have row5 := set3_0 (v := .slice P2 m2 c2) row4; have d40 := row3_0 row4; have d50 := row3_0 row5; have d51 := row3_1 row5; have d52 := row3_2 row5; obtain ⟨hbA2, hA6, hrep⟩ := HP2.out w2 P2 m2 c2 hb2 hA2.hi; clear hat2 hg2 hA2 row4 row5; have hszA := hbA2.size) | (at_builtin; refine wpList_app_one (T := tEn) rfl _ _ rfl Tryd.underlying28 hj hy0 hy1 hy2 rfl rfl hA6 rfl (at_new (by simp [World.setCell])) hrep (by rw [← Hno.out]; simp [maxLen]; omega) (by rw [← Hno.out]; omega) hszA ?_; intro v7 w7 hA7 hg7 hat7; obtain ⟨A7, n7, c7, rfl, _, _, hn7⟩ := hA7.sl.form'; have hn7i : (n7 : Int) - 1 = (no : Int) := by (have h1 := hn7.out; rw [List.length_append, List.length_singleton, ← Hno.out] at h1; omega)))
      have hn7n : no < n7 := by omega
      obtain ⟨gB, rfl, hgB1, hgB2⟩ := hA7.addr (k := no) hn7n
      have hb7 : Bw w w7 := Acc.bw hbA2 hg7 hownw (Nat.le_refl _)
      have hA7 : Acc tEn 37 w7 w.heap.size (.slice (some ⟨gB, 0, none⟩) n7 c7) (mvL y out no) := by rw [Hno.out, mvL_top]; exact hA7
      clear e0 e1 e2 hat7 hg7 hrep hA6 hE hu2 HP2 d40 d50 d51 d52 d4f hb2 hbA2 hszA hsW
      go_loopw [10] (fun i wq => ∃ t : Nat, t ≤ no ∧ i = .int .i64 t ∧ w7.grownBy wq (some gB) ∧ Acc tEn 37 wq w.heap.size (.slice (some ⟨gB, 0, none⟩) n7 c7) (mvL y out t) ∧ Hid (∀ j z, t ≤ j → out[j]? = some z → lkB y z = true)) (fun i _ => (intOf i).toNat)
      case atStart => exact ⟨no, Nat.le_refl _, rfl, ⟨rfl, rfl, rfl, Nat.le_refl _, fun _ _ _ => rfl⟩, hA7, fun j z hj hz => absurd (List.getElem?_eq_some_iff.1 hz).1 (by have := Hno.out; omega)⟩
      case round =>
        obtain ⟨t, ht, rfl, hgr, hAt, hhi⟩ := hrel
        have hend : Hid ((0 < t → ∀ z, out[t - 1]? = some z → lkB y z = false) → mvL y out t = sortL (atW (g.take (k + 1)) (x.drop q))) := fun hlo => by rw [hsn.out]; exact mv_sort HO.out HD1.out (by have := Hno.out; omega) hhi.out hlo
        have hbq : Bw w wr := bw_grown hb7 hgr hgB1
        clear hA7
        by_cases h0 : t = 0
        · subst h0
          have hEnd := hend.out (fun h => absurd h (by omega))
          rw [hEnd] at hAt
          have HAt := Lib.hid (hAt.after (Below.refl _ _).drew)
          clear hend hEnd hAt hhi
          go_wp2_with fail
          refine wp_region_held_drew (S := fun _ => True) (by kernel_rfl) trivial (fun hHeld => ?_)
          refine wpAnyH_take (i := 0) (oi := { dst := some 60, op := Go.Op.move (Go.Operand.tmp 10), type := 3, pos := "ref.go:117", after := #[], guard := none }) (v := ?v25) rfl (by kernel_rfl) (by kernel_rfl) (by kernel_rfl) (fun _ _ _ h => h) (Or.inl ⟨by rfl, ?hy25⟩) (by assumption) ?_
          case hy25 => (intro w hSw; (try dsimp only at hSw); go_simp; try with_reducible rfl)
          try simp only [Act.put, List.setIfInBounds_toArray, List.set_cons_zero, List.set_cons_succ]
          refine wpAnyH_take (i := 1) (oi := { dst := some 61, op := Go.Op.binOp Go.BinOp.gtr 3 (Go.Operand.tmp 60) (Go.Operand.const (Go.Value.int Go.IntKind.i64 0)) 3, type := 4, pos := "ref.go:117", after := #[{ on := 0, ground := Go.Ground.data }], guard := none }) (v := Value.bool false) rfl (by kernel_rfl) (by kernel_rfl) (by kernel_rfl) (fun _ _ _ h => h) (Or.inl ⟨by rfl, ?hy26⟩) (by assumption) ?_
          case hy26 => (intro w hSw; (try dsimp only at hSw); go_simp; try omega)
          try simp only [Act.put, List.setIfInBounds_toArray, List.set_cons_zero, List.set_cons_succ]
          refine wpAnyH_take (i := 2) (oi := { dst := some 62, op := Go.Op.move (Go.Operand.tmp 61), type := 4, pos := "ref.go:117", after := #[{ on := 1, ground := Go.Ground.data }], guard := none }) (v := ?v27) rfl (by kernel_rfl) (by kernel_rfl) (by kernel_rfl) (fun _ _ _ h => h) (Or.inl ⟨by rfl, ?hy27⟩) (by assumption) ?_
          case hy27 => (intro w hSw; (try dsimp only at hSw); go_simp; try with_reducible rfl)
          try simp only [Act.put, List.setIfInBounds_toArray, List.set_cons_zero, List.set_cons_succ]
          refine wpAnyH_take (i := 3) (oi := { dst := some 63, op := Go.Op.move (Go.Operand.tmp 7), type := 28, pos := "ref.go:117", after := #[{ on := 2, ground := Go.Ground.guard }], guard := some (2, true) }) (v := undef) rfl (by kernel_rfl) (by kernel_rfl) (by kernel_rfl) (fun _ _ _ h => h) (Or.inr ⟨by rfl, rfl⟩) (by assumption) ?_
          try simp only [Act.put, List.setIfInBounds_toArray, List.set_cons_zero, List.set_cons_succ]
          refine wpAnyH_take (i := 4) (oi := { dst := some 64, op := Go.Op.move (Go.Operand.tmp 10), type := 3, pos := "ref.go:117", after := #[{ on := 2, ground := Go.Ground.guard }], guard := some (2, true) }) (v := undef) rfl (by kernel_rfl) (by kernel_rfl) (by kernel_rfl) (fun _ _ _ h => h) (Or.inr ⟨by rfl, rfl⟩) (by assumption) ?_
          try simp only [Act.put, List.setIfInBounds_toArray, List.set_cons_zero, List.set_cons_succ]
          refine wpAnyH_take (i := 5) (oi := { dst := some 65, op := Go.Op.indexAddr 28 (Go.Operand.tmp 63) (Go.Operand.tmp 64), type := 0, pos := "ref.go:117", after := #[{ on := 3, ground := Go.Ground.data }, { on := 4, ground := Go.Ground.data }, { on := 2, ground := Go.Ground.guard }], guard := some (2, true) }) (v := undef) rfl (by kernel_rfl) (by kernel_rfl) (by kernel_rfl) (fun _ _ _ h => h) (Or.inr ⟨by rfl, rfl⟩) (by assumption) ?_
          try simp only [Act.put, List.setIfInBounds_toArray, List.set_cons_zero, List.set_cons_succ]
          refine wpAnyH_take (i := 6) (oi := { dst := some 66, op := Go.Op.load 37 (Go.Operand.tmp 65), type := 37, pos := "ref.go:117", after := #[{ on := 5, ground := Go.Ground.data }, { on := 2, ground := Go.Ground.guard }], guard := some (2, true) }) (v := undef) rfl (by kernel_rfl) (by kernel_rfl) (by kernel_rfl) (fun _ _ _ h => h) (Or.inr ⟨by rfl, rfl⟩) (by assumption) ?_
          try simp only [Act.put, List.setIfInBounds_toArray, List.set_cons_zero, List.set_cons_succ]
          refine wpAnyH_take (i := 7) (oi := { dst := some 67, op := Go.Op.move (Go.Operand.tmp 7), type := 28, pos := "ref.go:117", after := #[{ on := 2, ground := Go.Ground.guard }], guard := some (2, true) }) (v := undef) rfl (by kernel_rfl) (by kernel_rfl) (by kernel_rfl) (fun _ _ _ h => h) (Or.inr ⟨by rfl, rfl⟩) (by assumption) ?_
          try simp only [Act.put, List.setIfInBounds_toArray, List.set_cons_zero, List.set_cons_succ]
          refine wpAnyH_take (i := 8) (oi := { dst := some 68, op := Go.Op.move (Go.Operand.tmp 10), type := 3, pos := "ref.go:117", after := #[{ on := 2, ground := Go.Ground.guard }], guard := some (2, true) }) (v := undef) rfl (by kernel_rfl) (by kernel_rfl) (by kernel_rfl) (fun _ _ _ h => h) (Or.inr ⟨by rfl, rfl⟩) (by assumption) ?_
          try simp only [Act.put, List.setIfInBounds_toArray, List.set_cons_zero, List.set_cons_succ]
          refine wpAnyH_take (i := 9) (oi := { dst := some 69, op := Go.Op.binOp Go.BinOp.sub 3 (Go.Operand.tmp 68) (Go.Operand.const (Go.Value.int Go.IntKind.i64 1)) 3, type := 3, pos := "ref.go:117", after := #[{ on := 8, ground := Go.Ground.data }, { on := 2, ground := Go.Ground.guard }], guard := some (2, true) }) (v := undef) rfl (by kernel_rfl) (by kernel_rfl) (by kernel_rfl) (fun _ _ _ h => h) (Or.inr ⟨by rfl, rfl⟩) (by assumption) ?_
          try simp only [Act.put, List.setIfInBounds_toArray, List.set_cons_zero, List.set_cons_succ]
          refine wpAnyH_take (i := 10) (oi := { dst := some 70, op := Go.Op.indexAddr 28 (Go.Operand.tmp 67) (Go.Operand.tmp 69), type := 0, pos := "ref.go:117", after := #[{ on := 7, ground := Go.Ground.data }, { on := 9, ground := Go.Ground.data }, { on := 2, ground := Go.Ground.guard }], guard := some (2, true) }) (v := undef) rfl (by kernel_rfl) (by kernel_rfl) (by kernel_rfl) (fun _ _ _ h => h) (Or.inr ⟨by rfl, rfl⟩) (by assumption) ?_
          try simp only [Act.put, List.setIfInBounds_toArray, List.set_cons_zero, List.set_cons_succ]
          refine wpAnyH_take (i := 11) (oi := { dst := some 71, op := Go.Op.load 37 (Go.Operand.tmp 70), type := 37, pos := "ref.go:117", after := #[{ on := 10, ground := Go.Ground.data }, { on := 2, ground := Go.Ground.guard }], guard := some (2, true) }) (v := undef) rfl (by kernel_rfl) (by kernel_rfl) (by kernel_rfl) (fun _ _ _ h => h) (Or.inr ⟨by rfl, rfl⟩) (by assumption) ?_
          try simp only [Act.put, List.setIfInBounds_toArray, List.set_cons_zero, List.set_cons_succ]
          refine wpAnyH_take (i := 12) (oi := { dst := some 72, op := Go.Op.call { callee := Go.Callee.value (Go.Operand.func 42), args := #[Go.Operand.tmp 66, Go.Operand.tmp 71], argTypes := #[37, 37] }, type := 4, pos := "ref.go:117", after := #[{ on := 6, ground := Go.Ground.data }, { on := 11, ground := Go.Ground.data }, { on := 2, ground := Go.Ground.chain }, { on := 2, ground := Go.Ground.guard }], guard := some (2, true) }) (v := undef) rfl (by kernel_rfl) (by kernel_rfl) (by kernel_rfl) (fun _ _ _ h => h) (Or.inr ⟨by rfl, rfl⟩) (by assumption) ?_
          try simp only [Act.put, List.setIfInBounds_toArray, List.set_cons_zero, List.set_cons_succ]
          refine wpAnyH_take (i := 13) (oi := { dst := some 73, op := Go.Op.pick (Go.Operand.tmp 62) (Go.Operand.tmp 72) (Go.Operand.const (Go.Value.bool false)), type := 4, pos := "ref.go:117", after := #[{ on := 2, ground := Go.Ground.data }, { on := 12, ground := Go.Ground.data }], guard := none }) (v := ?v28) rfl (by kernel_rfl) (by kernel_rfl) (by kernel_rfl) (fun _ _ _ h => h) (Or.inl ⟨by rfl, ?hy28⟩) (by assumption) ?_
          case hy28 => (intro w hSw; (try dsimp only at hSw); go_simp; try with_reducible rfl)
          try simp only [Act.put, List.setIfInBounds_toArray, List.set_cons_zero, List.set_cons_succ]
          refine wpAnyH_done (by kernel_rfl) ?_ _
          go_wp2_with fail
          exact ⟨⟨k + 1, hlt, by go_num, hbq.drew, HAt.out⟩, by simp [intOf]; omega⟩
        obtain ⟨t', ht'⟩ : ∃ t', t = t' + 1 := ⟨t - 1, by omega⟩
        have hti : (t : Int) - 1 = (t' : Int) := by omega
        have hgt : (0 : Int) < (t : Int) := by omega
        have htw := wrapM (n := t') (by omega)
        have htn : t < n7 := by omega
        have htn' : t' < n7 := by omega
        have htt : t' < t := by omega
        have hlo' : t' < out.length := by have := Hno.out; omega
        obtain ⟨y1, v1, hy1, hys1, hyc1, hv1, e0, e1, e2⟩ := hAt.en' (k := t) htn
        obtain ⟨z, v2', hz1, hzs, hzc, hv2, f0, f1, f2⟩ := hAt.en' (k := t') htn'
        have hyy : y1 = y := by
          have h1 := hy1.out
          rw [mvL_at (by have := Hno.out; omega), if_neg (by omega), if_pos rfl] at h1
          injection h1 with h1
          exact h1.symm
        subst hyy
        have hzo : Hid (out[t']? = some z) := by
          have h1 := hz1.out
          rw [mvL_at (by have := Hno.out; omega), if_pos htt] at h1
          exact h1
        obtain ⟨B1, m1, d1, rfl, _, _, _⟩ := hv1.form'
        obtain ⟨B2, m2', d2, rfl, _, _, _⟩ := hv2.form'
        have HLK := Lib.hid (fun (W : World) (kk : Bw wr W) => likelier_any (a := y1) (b := z) (hv1.rd.after kk) (hv2.rd.after kk) (by simpa [maxLen] using hys1) (by simpa [maxLen] using hzs))
        have K0 : ∀ W, Bw wr W → (W.cell? ⟨gB, t * 3, none⟩ = some (.slice B1 m1 d1) ∧ W.cell? ⟨gB, t * 3 + 1, none⟩ = some (.string y1.2.1) ∧ W.cell? ⟨gB, t * 3 + 2, none⟩ = some (.int .i64 y1.2.2) ∧ W.cell? ⟨gB, t' * 3, none⟩ = some (.slice B2 m2' d2) ∧ W.cell? ⟨gB, t' * 3 + 1, none⟩ = some (.string z.2.1) ∧ W.cell? ⟨gB, t' * 3 + 2, none⟩ = some (.int .i64 z.2.2)) := fun W kk =>
          ⟨bw_cell kk e0, bw_cell kk e1, bw_cell kk e2, bw_cell kk f0, bw_cell kk f1, bw_cell kk f2⟩
        have Ht' := Lib.hid ht'
        have Hz1 := Lib.hid hz1
        have Hy1 := Lib.hid hy1
        cases hlk : lkB y1 z
        · have hEnd := hend.out (fun _ z' hz' => by rw [ht', Nat.add_sub_cancel, hzo.out] at hz'; injection hz' with hz'; subst hz'; exact hlk)
          rw [hEnd] at hAt
          have HAt := Lib.hid hAt
          rw [hlk] at HLK
          clear hend hEnd hAt hhi hv1 hv2 e0 e1 e2 f0 f1 f2 hlk ht' hlo'
          go_wp2_with fail
          refine wp_region_held_drew (S := fun u => u.cell? ⟨gB, t * 3, none⟩ = some (.slice B1 m1 d1) ∧ u.cell? ⟨gB, t * 3 + 1, none⟩ = some (.string y1.2.1) ∧ u.cell? ⟨gB, t * 3 + 2, none⟩ = some (.int .i64 y1.2.2) ∧ u.cell? ⟨gB, t' * 3, none⟩ = some (.slice B2 m2' d2) ∧ u.cell? ⟨gB, t' * 3 + 1, none⟩ = some (.string z.2.1) ∧ u.cell? ⟨gB, t' * 3 + 2, none⟩ = some (.int .i64 z.2.2)) (by kernel_rfl) ?_ (fun hHeld => ?_)
          · exact K0 _ (Bw.drew (Below.refl _ _))
          refine wpAnyH_take (i := 0) (oi := { dst := some 60, op := Go.Op.move (Go.Operand.tmp 10), type := 3, pos := "ref.go:117", after := #[], guard := none }) (v := ?v42) rfl (by kernel_rfl) (by kernel_rfl) (by kernel_rfl) (fun _ _ _ h => h) (Or.inl ⟨by rfl, ?hy42⟩) (by assumption) ?_
          case hy42 => (intro w hSw; (try dsimp only at hSw); go_simp; try with_reducible rfl)
          try simp only [Act.put, List.setIfInBounds_toArray, List.set_cons_zero, List.set_cons_succ]
          refine wpAnyH_take (i := 1) (oi := { dst := some 61, op := Go.Op.binOp Go.BinOp.gtr 3 (Go.Operand.tmp 60) (Go.Operand.const (Go.Value.int Go.IntKind.i64 0)) 3, type := 4, pos := "ref.go:117", after := #[{ on := 0, ground := Go.Ground.data }], guard := none }) (v := Value.bool true) rfl (by kernel_rfl) (by kernel_rfl) (by kernel_rfl) (fun _ _ _ h => h) (Or.inl ⟨by rfl, ?hy43⟩) (by assumption) ?_
          case hy43 => (intro w hSw; (try dsimp only at hSw); go_simp; try omega)
          try simp only [Act.put, List.setIfInBounds_toArray, List.set_cons_zero, List.set_cons_succ]
          refine wpAnyH_take (i := 2) (oi := { dst := some 62, op := Go.Op.move (Go.Operand.tmp 61), type := 4, pos := "ref.go:117", after := #[{ on := 1, ground := Go.Ground.data }], guard := none }) (v := ?v44) rfl (by kernel_rfl) (by kernel_rfl) (by kernel_rfl) (fun _ _ _ h => h) (Or.inl ⟨by rfl, ?hy44⟩) (by assumption) ?_
          case hy44 => (intro w hSw; (try dsimp only at hSw); go_simp; try with_reducible rfl)
          try simp only [Act.put, List.setIfInBounds_toArray, List.set_cons_zero, List.set_cons_succ]
          refine wpAnyH_take (i := 3) (oi := { dst := some 63, op := Go.Op.move (Go.Operand.tmp 7), type := 28, pos := "ref.go:117", after := #[{ on := 2, ground := Go.Ground.guard }], guard := some (2, true) }) (v := ?v45) rfl (by kernel_rfl) (by kernel_rfl) (by kernel_rfl) (fun _ _ _ h => h) (Or.inl ⟨by rfl, ?hy45⟩) (by assumption) ?_
          case hy45 => (intro w hSw; (try dsimp only at hSw); go_simp; try with_reducible rfl)
          try simp only [Act.put, List.setIfInBounds_toArray, List.set_cons_zero, List.set_cons_succ]
          refine wpAnyH_take (i := 4) (oi := { dst := some 64, op := Go.Op.move (Go.Operand.tmp 10), type := 3, pos := "ref.go:117", after := #[{ on := 2, ground := Go.Ground.guard }], guard := some (2, true) }) (v := ?v46) rfl (by kernel_rfl) (by kernel_rfl) (by kernel_rfl) (fun _ _ _ h => h) (Or.inl ⟨by rfl, ?hy46⟩) (by assumption) ?_
          case hy46 => (intro w hSw; (try dsimp only at hSw); go_simp; try with_reducible rfl)
          try simp only [Act.put, List.setIfInBounds_toArray, List.set_cons_zero, List.set_cons_succ]
          refine wpAnyH_take (i := 5) (oi := { dst := some 65, op := Go.Op.indexAddr 28 (Go.Operand.tmp 63) (Go.Operand.tmp 64), type := 0, pos := "ref.go:117", after := #[{ on := 3, ground := Go.Ground.data }, { on := 4, ground := Go.Ground.data }, { on := 2, ground := Go.Ground.guard }], guard := some (2, true) }) (v := ?v47) rfl (by kernel_rfl) (by kernel_rfl) (by kernel_rfl) (fun _ _ _ h => h) (Or.inl ⟨by rfl, ?hy47⟩) (by assumption) ?_
          case hy47 => (intro w hSw; (try dsimp only at hSw); go_simp; try with_reducible rfl)
          try simp only [Act.put, List.setIfInBounds_toArray, List.set_cons_zero, List.set_cons_succ]
          refine wpAnyH_take (i := 6) (oi := { dst := some 66, op := Go.Op.load 37 (Go.Operand.tmp 65), type := 37, pos := "ref.go:117", after := #[{ on := 5, ground := Go.Ground.data }, { on := 2, ground := Go.Ground.guard }], guard := some (2, true) }) (v := ?v48) rfl (by kernel_rfl) (by kernel_rfl) (by kernel_rfl) (fun _ _ _ h => h) (Or.inl ⟨by rfl, ?hy48⟩) (by assumption) ?_
          case hy48 => (intro w hSw; (try dsimp only at hSw); go_simp; try with_reducible rfl)
          try simp only [Act.put, List.setIfInBounds_toArray, List.set_cons_zero, List.set_cons_succ]
          refine wpAnyH_take (i := 7) (oi := { dst := some 67, op := Go.Op.move (Go.Operand.tmp 7), type := 28, pos := "ref.go:117", after := #[{ on := 2, ground := Go.Ground.guard }], guard := some (2, true) }) (v := ?v49) rfl (by kernel_rfl) (by kernel_rfl) (by kernel_rfl) (fun _ _ _ h => h) (Or.inl ⟨by rfl, ?hy49⟩) (by assumption) ?_
          case hy49 => (intro w hSw; (try dsimp only at hSw); go_simp; try with_reducible rfl)
          try simp only [Act.put, List.setIfInBounds_toArray, List.set_cons_zero, List.set_cons_succ]
          refine wpAnyH_take (i := 8) (oi := { dst := some 68, op := Go.Op.move (Go.Operand.tmp 10), type := 3, pos := "ref.go:117", after := #[{ on := 2, ground := Go.Ground.guard }], guard := some (2, true) }) (v := ?v50) rfl (by kernel_rfl) (by kernel_rfl) (by kernel_rfl) (fun _ _ _ h => h) (Or.inl ⟨by rfl, ?hy50⟩) (by assumption) ?_
          case hy50 => (intro w hSw; (try dsimp only at hSw); go_simp; try with_reducible rfl)
          try simp only [Act.put, List.setIfInBounds_toArray, List.set_cons_zero, List.set_cons_succ]
          refine wpAnyH_take (i := 9) (oi := { dst := some 69, op := Go.Op.binOp Go.BinOp.sub 3 (Go.Operand.tmp 68) (Go.Operand.const (Go.Value.int Go.IntKind.i64 1)) 3, type := 3, pos := "ref.go:117", after := #[{ on := 8, ground := Go.Ground.data }, { on := 2, ground := Go.Ground.guard }], guard := some (2, true) }) (v := ?v51) rfl (by kernel_rfl) (by kernel_rfl) (by kernel_rfl) (fun _ _ _ h => h) (Or.inl ⟨by rfl, ?hy51⟩) (by assumption) ?_
          case hy51 => (intro w hSw; (try dsimp only at hSw); go_simp; try with_reducible rfl)
          try simp only [Act.put, List.setIfInBounds_toArray, List.set_cons_zero, List.set_cons_succ]
          refine wpAnyH_take (i := 10) (oi := { dst := some 70, op := Go.Op.indexAddr 28 (Go.Operand.tmp 67) (Go.Operand.tmp 69), type := 0, pos := "ref.go:117", after := #[{ on := 7, ground := Go.Ground.data }, { on := 9, ground := Go.Ground.data }, { on := 2, ground := Go.Ground.guard }], guard := some (2, true) }) (v := ?v52) rfl (by kernel_rfl) (by kernel_rfl) (by kernel_rfl) (fun _ _ _ h => h) (Or.inl ⟨by rfl, ?hy52⟩) (by assumption) ?_
          case hy52 => (intro w hSw; (try dsimp only at hSw); go_simp; try with_reducible rfl)
          try simp only [Act.put, List.setIfInBounds_toArray, List.set_cons_zero, List.set_cons_succ]
          refine wpAnyH_take (i := 11) (oi := { dst := some 71, op := Go.Op.load 37 (Go.Operand.tmp 70), type := 37, pos := "ref.go:117", after := #[{ on := 10, ground := Go.Ground.data }, { on := 2, ground := Go.Ground.guard }], guard := some (2, true) }) (v := ?v53) rfl (by kernel_rfl) (by kernel_rfl) (by kernel_rfl) (fun _ _ _ h => h) (Or.inl ⟨by rfl, ?hy53⟩) (by assumption) ?_
          case hy53 => (intro w hSw; (try dsimp only at hSw); go_simp; try with_reducible rfl)
          try simp only [Act.put, List.setIfInBounds_toArray, List.set_cons_zero, List.set_cons_succ]
          refine wpAnyH_ready (rs := [12]) (by kernel_rfl) (by simp) ?_
          refine (AllReadyH.cons (i := 12) (o := { dst := some 72, op := Go.Op.call { callee := Go.Callee.value (Go.Operand.func 42), args := #[Go.Operand.tmp 66, Go.Operand.tmp 71], argTypes := #[37, 37] }, type := 4, pos := "ref.go:117", after := #[{ on := 6, ground := Go.Ground.data }, { on := 11, ground := Go.Ground.data }, { on := 2, ground := Go.Ground.chain }, { on := 2, ground := Go.Ground.guard }], guard := some (2, true) }) rfl (fun K' hK' => ?_) AllReadyH.nil)
          go_simp
          with_reducible refine (HLK.out _ (by (repeat' first | with_reducible exact Below.refl _ _ | with_reducible assumption | with_reducible refine Bw.drew ?_ | with_reducible refine Bw.drewN ?_ _ | with_reducible refine bw_al ?_ _ | with_reducible refine Bw.then ?_ (by with_reducible assumption)))).mono ?_
          rintro e wB ⟨rfl, hbB⟩
          try dsimp only
          refine hK'.out _ _ ?_ (fun hHeld => ?_)
          · exact K0 _ (by (repeat' first | with_reducible exact Below.refl _ _ | with_reducible assumption | with_reducible refine Bw.drew ?_ | with_reducible refine Bw.drewN ?_ _ | with_reducible refine bw_al ?_ _ | with_reducible refine Bw.then ?_ (by with_reducible assumption)))
          clear hK' K'
          try simp only [Act.put, List.setIfInBounds_toArray, List.set_cons_zero, List.set_cons_succ]
          refine wpAnyH_take (i := 13) (oi := { dst := some 73, op := Go.Op.pick (Go.Operand.tmp 62) (Go.Operand.tmp 72) (Go.Operand.const (Go.Value.bool false)), type := 4, pos := "ref.go:117", after := #[{ on := 2, ground := Go.Ground.data }, { on := 12, ground := Go.Ground.data }], guard := none }) (v := ?v54) rfl (by kernel_rfl) (by kernel_rfl) (by kernel_rfl) (fun _ _ _ h => h) (Or.inl ⟨by rfl, ?hy54⟩) (by assumption) ?_
          case hy54 => (intro w hSw; (try dsimp only at hSw); go_simp; try with_reducible rfl)
          try simp only [Act.put, List.setIfInBounds_toArray, List.set_cons_zero, List.set_cons_succ]
          refine wpAnyH_done (by kernel_rfl) ?_ _
          have hT0 : Bw wr wB := (by (repeat' first | with_reducible exact Below.refl _ _ | with_reducible assumption | with_reducible refine Bw.drew ?_ | with_reducible refine Bw.drewN ?_ _ | with_reducible refine bw_al ?_ _ | with_reducible refine Bw.then ?_ (by with_reducible assumption)))
          have HAB := HAt.out.after hT0
          clear HAt HLK K0
          go_wp2_with fail
          exact ⟨⟨k + 1, hlt, by go_num, hbq.then hT0, HAB⟩, by simp [intOf]; omega⟩
        · have hhi2 : Hid (∀ j z, t' ≤ j → out[j]? = some z → lkB y1 z = true) := fun j z' hj hz' => by
            by_cases e : j = t'
            · subst e; rw [hzo.out] at hz'; injection hz' with hz'; subst hz'; exact hlk
            · exact hhi.out j z' (by omega) hz'
          have HAt := Lib.hid hAt
          have hres : Hid (((mvL y1 out t).set t' y1).set t z = mvL y1 out t') := by
            show _ = _
            rw [List.set_comm _ _ (by omega), ht', mvL_dn hlo' hzo.out]
          rw [hlk] at HLK
          clear hend hAt hhi hv1 hv2 e0 e1 e2 f0 f1 f2 hlk ht' hlo'
          go_wp2_with fail
          refine wp_region_held_drew (S := fun u => u.cell? ⟨gB, t * 3, none⟩ = some (.slice B1 m1 d1) ∧ u.cell? ⟨gB, t * 3 + 1, none⟩ = some (.string y1.2.1) ∧ u.cell? ⟨gB, t * 3 + 2, none⟩ = some (.int .i64 y1.2.2) ∧ u.cell? ⟨gB, t' * 3, none⟩ = some (.slice B2 m2' d2) ∧ u.cell? ⟨gB, t' * 3 + 1, none⟩ = some (.string z.2.1) ∧ u.cell? ⟨gB, t' * 3 + 2, none⟩ = some (.int .i64 z.2.2)) (by kernel_rfl) ?_ (fun hHeld => ?_)
          · exact K0 _ (Bw.drew (Below.refl _ _))
          refine wpAnyH_take (i := 0) (oi := { dst := some 60, op := Go.Op.move (Go.Operand.tmp 10), type := 3, pos := "ref.go:117", after := #[], guard := none }) (v := ?v29) rfl (by kernel_rfl) (by kernel_rfl) (by kernel_rfl) (fun _ _ _ h => h) (Or.inl ⟨by rfl, ?hy29⟩) (by assumption) ?_
          case hy29 => (intro w hSw; (try dsimp only at hSw); go_simp; try with_reducible rfl)
          try simp only [Act.put, List.setIfInBounds_toArray, List.set_cons_zero, List.set_cons_succ]
          refine wpAnyH_take (i := 1) (oi := { dst := some 61, op := Go.Op.binOp Go.BinOp.gtr 3 (Go.Operand.tmp 60) (Go.Operand.const (Go.Value.int Go.IntKind.i64 0)) 3, type := 4, pos := "ref.go:117", after := #[{ on := 0, ground := Go.Ground.data }], guard := none }) (v := Value.bool true) rfl (by kernel_rfl) (by kernel_rfl) (by kernel_rfl) (fun _ _ _ h => h) (Or.inl ⟨by rfl, ?hy30⟩) (by assumption) ?_
          case hy30 => (intro w hSw; (try dsimp only at hSw); go_simp; try omega)
          try simp only [Act.put, List.setIfInBounds_toArray, List.set_cons_zero, List.set_cons_succ]
          refine wpAnyH_take (i := 2) (oi := { dst := some 62, op := Go.Op.move (Go.Operand.tmp 61), type := 4, pos := "ref.go:117", after := #[{ on := 1, ground := Go.Ground.data }], guard := none }) (v := ?v31) rfl (by kernel_rfl) (by kernel_rfl) (by kernel_rfl) (fun _ _ _ h => h) (Or.inl ⟨by rfl, ?hy31⟩) (by assumption) ?_
          case hy31 => (intro w hSw; (try dsimp only at hSw); go_simp; try with_reducible rfl)
          try simp only [Act.put, List.setIfInBounds_toArray, List.set_cons_zero, List.set_cons_succ]
          refine wpAnyH_take (i := 3) (oi := { dst := some 63, op := Go.Op.move (Go.Operand.tmp 7), type := 28, pos := "ref.go:117", after := #[{ on := 2, ground := Go.Ground.guard }], guard := some (2, true) }) (v := ?v32) rfl (by kernel_rfl) (by kernel_rfl) (by kernel_rfl) (fun _ _ _ h => h) (Or.inl ⟨by rfl, ?hy32⟩) (by assumption) ?_
          case hy32 => (intro w hSw; (try dsimp only at hSw); go_simp; try with_reducible rfl)
          try simp only [Act.put, List.setIfInBounds_toArray, List.set_cons_zero, List.set_cons_succ]
          refine wpAnyH_take (i := 4) (oi := { dst := some 64, op := Go.Op.move (Go.Operand.tmp 10), type := 3, pos := "ref.go:117", after := #[{ on := 2, ground := Go.Ground.guard }], guard := some (2, true) }) (v := ?v33) rfl (by kernel_rfl) (by kernel_rfl) (by kernel_rfl) (fun _ _ _ h => h) (Or.inl ⟨by rfl, ?hy33⟩) (by assumption) ?_
          case hy33 => (intro w hSw; (try dsimp only at hSw); go_simp; try with_reducible rfl)
          try simp only [Act.put, List.setIfInBounds_toArray, List.set_cons_zero, List.set_cons_succ]
          refine wpAnyH_take (i := 5) (oi := { dst := some 65, op := Go.Op.indexAddr 28 (Go.Operand.tmp 63) (Go.Operand.tmp 64), type := 0, pos := "ref.go:117", after := #[{ on := 3, ground := Go.Ground.data }, { on := 4, ground := Go.Ground.data }, { on := 2, ground := Go.Ground.guard }], guard := some (2, true) }) (v := ?v34) rfl (by kernel_rfl) (by kernel_rfl) (by kernel_rfl) (fun _ _ _ h => h) (Or.inl ⟨by rfl, ?hy34⟩) (by assumption) ?_
          case hy34 => (intro w hSw; (try dsimp only at hSw); go_simp; try with_reducible rfl)
          try simp only [Act.put, List.setIfInBounds_toArray, List.set_cons_zero, List.set_cons_succ]
          refine wpAnyH_take (i := 6) (oi := { dst := some 66, op := Go.Op.load 37 (Go.Operand.tmp 65), type := 37, pos := "ref.go:117", after := #[{ on := 5, ground := Go.Ground.data }, { on := 2, ground := Go.Ground.guard }], guard := some (2, true) }) (v := ?v35) rfl (by kernel_rfl) (by kernel_rfl) (by kernel_rfl) (fun _ _ _ h => h) (Or.inl ⟨by rfl, ?hy35⟩) (by assumption) ?_
          case hy35 => (intro w hSw; (try dsimp only at hSw); go_simp; try with_reducible rfl)
          try simp only [Act.put, List.setIfInBounds_toArray, List.set_cons_zero, List.set_cons_succ]
          refine wpAnyH_take (i := 7) (oi := { dst := some 67, op := Go.Op.move (Go.Operand.tmp 7), type := 28, pos := "ref.go:117", after := #[{ on := 2, ground := Go.Ground.guard }], guard := some (2, true) }) (v := ?v36) rfl (by kernel_rfl) (by kernel_rfl) (by kernel_rfl) (fun _ _ _ h => h) (Or.inl ⟨by rfl, ?hy36⟩) (by assumption) ?_
          case hy36 => (intro w hSw; (try dsimp only at hSw); go_simp; try with_reducible rfl)
          try simp only [Act.put, List.setIfInBounds_toArray, List.set_cons_zero, List.set_cons_succ]
          refine wpAnyH_take (i := 8) (oi := { dst := some 68, op := Go.Op.move (Go.Operand.tmp 10), type := 3, pos := "ref.go:117", after := #[{ on := 2, ground := Go.Ground.guard }], guard := some (2, true) }) (v := ?v37) rfl (by kernel_rfl) (by kernel_rfl) (by kernel_rfl) (fun _ _ _ h => h) (Or.inl ⟨by rfl, ?hy37⟩) (by assumption) ?_
          case hy37 => (intro w hSw; (try dsimp only at hSw); go_simp; try with_reducible rfl)
          try simp only [Act.put, List.setIfInBounds_toArray, List.set_cons_zero, List.set_cons_succ]
          refine wpAnyH_take (i := 9) (oi := { dst := some 69, op := Go.Op.binOp Go.BinOp.sub 3 (Go.Operand.tmp 68) (Go.Operand.const (Go.Value.int Go.IntKind.i64 1)) 3, type := 3, pos := "ref.go:117", after := #[{ on := 8, ground := Go.Ground.data }, { on := 2, ground := Go.Ground.guard }], guard := some (2, true) }) (v := ?v38) rfl (by kernel_rfl) (by kernel_rfl) (by kernel_rfl) (fun _ _ _ h => h) (Or.inl ⟨by rfl, ?hy38⟩) (by assumption) ?_
          case hy38 => (intro w hSw; (try dsimp only at hSw); go_simp; try with_reducible rfl)
          try simp only [Act.put, List.setIfInBounds_toArray, List.set_cons_zero, List.set_cons_succ]
          refine wpAnyH_take (i := 10) (oi := { dst := some 70, op := Go.Op.indexAddr 28 (Go.Operand.tmp 67) (Go.Operand.tmp 69), type := 0, pos := "ref.go:117", after := #[{ on := 7, ground := Go.Ground.data }, { on := 9, ground := Go.Ground.data }, { on := 2, ground := Go.Ground.guard }], guard := some (2, true) }) (v := ?v39) rfl (by kernel_rfl) (by kernel_rfl) (by kernel_rfl) (fun _ _ _ h => h) (Or.inl ⟨by rfl, ?hy39⟩) (by assumption) ?_
          case hy39 => (intro w hSw; (try dsimp only at hSw); go_simp; try with_reducible rfl)
          try simp only [Act.put, List.setIfInBounds_toArray, List.set_cons_zero, List.set_cons_succ]
          refine wpAnyH_take (i := 11) (oi := { dst := some 71, op := Go.Op.load 37 (Go.Operand.tmp 70), type := 37, pos := "ref.go:117", after := #[{ on := 10, ground := Go.Ground.data }, { on := 2, ground := Go.Ground.guard }], guard := some (2, true) }) (v := ?v40) rfl (by kernel_rfl) (by kernel_rfl) (by kernel_rfl) (fun _ _ _ h => h) (Or.inl ⟨by rfl, ?hy40⟩) (by assumption) ?_
          case hy40 => (intro w hSw; (try dsimp only at hSw); go_simp; try with_reducible rfl)
          try simp only [Act.put, List.setIfInBounds_toArray, List.set_cons_zero, List.set_cons_succ]
          refine wpAnyH_ready (rs := [12]) (by kernel_rfl) (by simp) ?_
          refine (AllReadyH.cons (i := 12) (o := { dst := some 72, op := Go.Op.call { callee := Go.Callee.value (Go.Operand.func 42), args := #[Go.Operand.tmp 66, Go.Operand.tmp 71], argTypes := #[37, 37] }, type := 4, pos := "ref.go:117", after := #[{ on := 6, ground := Go.Ground.data }, { on := 11, ground := Go.Ground.data }, { on := 2, ground := Go.Ground.chain }, { on := 2, ground := Go.Ground.guard }], guard := some (2, true) }) rfl (fun K' hK' => ?_) AllReadyH.nil)
          go_simp
          with_reducible refine (HLK.out _ (by (repeat' first | with_reducible exact Below.refl _ _ | with_reducible assumption | with_reducible refine Bw.drew ?_ | with_reducible refine Bw.drewN ?_ _ | with_reducible refine bw_al ?_ _ | with_reducible refine Bw.then ?_ (by with_reducible assumption)))).mono ?_
          rintro e wB ⟨rfl, hbB⟩
          try dsimp only
          refine hK'.out _ _ ?_ (fun hHeld => ?_)
          · exact K0 _ (by (repeat' first | with_reducible exact Below.refl _ _ | with_reducible assumption | with_reducible refine Bw.drew ?_ | with_reducible refine Bw.drewN ?_ _ | with_reducible refine bw_al ?_ _ | with_reducible refine Bw.then ?_ (by with_reducible assumption)))
          clear hK' K'
          try simp only [Act.put, List.setIfInBounds_toArray, List.set_cons_zero, List.set_cons_succ]
          refine wpAnyH_take (i := 13) (oi := { dst := some 73, op := Go.Op.pick (Go.Operand.tmp 62) (Go.Operand.tmp 72) (Go.Operand.const (Go.Value.bool false)), type := 4, pos := "ref.go:117", after := #[{ on := 2, ground := Go.Ground.data }, { on := 12, ground := Go.Ground.data }], guard := none }) (v := ?v41) rfl (by kernel_rfl) (by kernel_rfl) (by kernel_rfl) (fun _ _ _ h => h) (Or.inl ⟨by rfl, ?hy41⟩) (by assumption) ?_
          case hy41 => (intro w hSw; (try dsimp only at hSw); go_simp; try with_reducible rfl)
          try simp only [Act.put, List.setIfInBounds_toArray, List.set_cons_zero, List.set_cons_succ]
          refine wpAnyH_done (by kernel_rfl) ?_ _
          have hT0 : Bw wr wB := (by (repeat' first | with_reducible exact Below.refl _ _ | with_reducible assumption | with_reducible refine Bw.drew ?_ | with_reducible refine Bw.drewN ?_ _ | with_reducible refine bw_al ?_ _ | with_reducible refine Bw.then ?_ (by with_reducible assumption)))
          have hAd := HAt.out.after hT0.drew
          obtain ⟨y2, u2, hy2, hys, hyc, hu2, f0, f1, f2⟩ := hAd.en' (k := t) htn
          obtain ⟨x2, u1, hx2, hxs, hxc, hu1, e0, e1, e2⟩ := hAd.en' (k := t') htn'
          have hyy : y2 = y1 := by
            have h1 := hy2.out.symm.trans Hy1.out
            injection h1
          have hxx : x2 = z := by
            have h1 := hx2.out.symm.trans Hz1.out
            injection h1
          subst hyy hxx
          have hgd : w7.grownBy wB.drew (some gB) := grown_trans hgr (grown_bwM hT0.drew _)
          have hpn := htn'
          have hqn := htn
          clear HAt HLK K0 hy2 hx2
          go_wp2_with fail
          refine wp_region_held_drew (S := fun _ => True) (by kernel_rfl) trivial (fun hHeld => ?_)
          refine wpAnyH_take (i := 0) (oi := { dst := some 76, op := Go.Op.move (Go.Operand.tmp 7), type := 28, pos := "ref.go:118", after := #[], guard := none }) (v := ?v55) rfl (by kernel_rfl) (by kernel_rfl) (by kernel_rfl) (fun _ _ _ h => h) (Or.inl ⟨by rfl, ?hy55⟩) (by assumption) ?_
          case hy55 => (intro w hSw; (try dsimp only at hSw); go_simp; try with_reducible rfl)
          try simp only [Act.put, List.setIfInBounds_toArray, List.set_cons_zero, List.set_cons_succ]
          refine wpAnyH_take (i := 1) (oi := { dst := some 77, op := Go.Op.move (Go.Operand.tmp 10), type := 3, pos := "ref.go:118", after := #[], guard := none }) (v := ?v56) rfl (by kernel_rfl) (by kernel_rfl) (by kernel_rfl) (fun _ _ _ h => h) (Or.inl ⟨by rfl, ?hy56⟩) (by assumption) ?_
          case hy56 => (intro w hSw; (try dsimp only at hSw); go_simp; try with_reducible rfl)
          try simp only [Act.put, List.setIfInBounds_toArray, List.set_cons_zero, List.set_cons_succ]
          refine wpAnyH_take (i := 2) (oi := { dst := some 78, op := Go.Op.binOp Go.BinOp.sub 3 (Go.Operand.tmp 77) (Go.Operand.const (Go.Value.int Go.IntKind.i64 1)) 3, type := 3, pos := "ref.go:118", after := #[{ on := 1, ground := Go.Ground.data }], guard := none }) (v := ?v57) rfl (by kernel_rfl) (by kernel_rfl) (by kernel_rfl) (fun _ _ _ h => h) (Or.inl ⟨by rfl, ?hy57⟩) (by assumption) ?_
          case hy57 => (intro w hSw; (try dsimp only at hSw); go_simp; try with_reducible rfl)
          try simp only [Act.put, List.setIfInBounds_toArray, List.set_cons_zero, List.set_cons_succ]
          refine wpAnyH_take (i := 3) (oi := { dst := some 79, op := Go.Op.move (Go.Operand.tmp 7), type := 28, pos := "ref.go:118", after := #[{ on := 15, ground := Go.Ground.gcOnly Go.Departure.lateStores }], guard := none }) (v := ?v58) rfl (by kernel_rfl) (by kernel_rfl) (by kernel_rfl) (fun _ _ _ h => h) (Or.inl ⟨by rfl, ?hy58⟩) (by assumption) ?_
          case hy58 => (intro w hSw; (try dsimp only at hSw); go_simp; try with_reducible rfl)
          try simp only [Act.put, List.setIfInBounds_toArray, List.set_cons_zero, List.set_cons_succ]
          refine wpAnyH_take (i := 4) (oi := { dst := some 80, op := Go.Op.move (Go.Operand.tmp 10), type := 3, pos := "ref.go:118", after := #[{ on := 15, ground := Go.Ground.gcOnly Go.Departure.lateStores }], guard := none }) (v := ?v59) rfl (by kernel_rfl) (by kernel_rfl) (by kernel_rfl) (fun _ _ _ h => h) (Or.inl ⟨by rfl, ?hy59⟩) (by assumption) ?_
          case hy59 => (intro w hSw; (try dsimp only at hSw); go_simp; try with_reducible rfl)
          try simp only [Act.put, List.setIfInBounds_toArray, List.set_cons_zero, List.set_cons_succ]
          refine wpAnyH_take (i := 5) (oi := { dst := some 81, op := Go.Op.move (Go.Operand.tmp 7), type := 28, pos := "ref.go:118", after := #[], guard := none }) (v := ?v60) rfl (by kernel_rfl) (by kernel_rfl) (by kernel_rfl) (fun _ _ _ h => h) (Or.inl ⟨by rfl, ?hy60⟩) (by assumption) ?_
          case hy60 => (intro w hSw; (try dsimp only at hSw); go_simp; try with_reducible rfl)
          try simp only [Act.put, List.setIfInBounds_toArray, List.set_cons_zero, List.set_cons_succ]
          refine wpAnyH_take (i := 6) (oi := { dst := some 82, op := Go.Op.move (Go.Operand.tmp 10), type := 3, pos := "ref.go:118", after := #[], guard := none }) (v := ?v61) rfl (by kernel_rfl) (by kernel_rfl) (by kernel_rfl) (fun _ _ _ h => h) (Or.inl ⟨by rfl, ?hy61⟩) (by assumption) ?_
          case hy61 => (intro w hSw; (try dsimp only at hSw); go_simp; try with_reducible rfl)
          try simp only [Act.put, List.setIfInBounds_toArray, List.set_cons_zero, List.set_cons_succ]
          refine wpAnyH_take (i := 7) (oi := { dst := some 83, op := Go.Op.indexAddr 28 (Go.Operand.tmp 81) (Go.Operand.tmp 82), type := 0, pos := "ref.go:118", after := #[{ on := 5, ground := Go.Ground.data }, { on := 6, ground := Go.Ground.data }], guard := none }) (v := ?v62) rfl (by kernel_rfl) (by kernel_rfl) (by kernel_rfl) (fun _ _ _ h => h) (Or.inl ⟨by rfl, ?hy62⟩) (by assumption) ?_
          case hy62 => (intro w hSw; (try dsimp only at hSw); go_simp; try with_reducible rfl)
          try simp only [Act.put, List.setIfInBounds_toArray, List.set_cons_zero, List.set_cons_succ]
          refine wpAnyH_take (i := 9) (oi := { dst := some 85, op := Go.Op.move (Go.Operand.tmp 7), type := 28, pos := "ref.go:118", after := #[], guard := none }) (v := ?v63) rfl (by kernel_rfl) (by kernel_rfl) (by kernel_rfl) (fun _ _ _ h => h) (Or.inl ⟨by rfl, ?hy63⟩) (by assumption) ?_
          case hy63 => (intro w hSw; (try dsimp only at hSw); go_simp; try with_reducible rfl)
          try simp only [Act.put, List.setIfInBounds_toArray, List.set_cons_zero, List.set_cons_succ]
          refine wpAnyH_take (i := 10) (oi := { dst := some 86, op := Go.Op.move (Go.Operand.tmp 10), type := 3, pos := "ref.go:118", after := #[], guard := none }) (v := ?v64) rfl (by kernel_rfl) (by kernel_rfl) (by kernel_rfl) (fun _ _ _ h => h) (Or.inl ⟨by rfl, ?hy64⟩) (by assumption) ?_
          case hy64 => (intro w hSw; (try dsimp only at hSw); go_simp; try with_reducible rfl)
          try simp only [Act.put, List.setIfInBounds_toArray, List.set_cons_zero, List.set_cons_succ]
          refine wpAnyH_take (i := 11) (oi := { dst := some 87, op := Go.Op.binOp Go.BinOp.sub 3 (Go.Operand.tmp 86) (Go.Operand.const (Go.Value.int Go.IntKind.i64 1)) 3, type := 3, pos := "ref.go:118", after := #[{ on := 10, ground := Go.Ground.data }], guard := none }) (v := ?v65) rfl (by kernel_rfl) (by kernel_rfl) (by kernel_rfl) (fun _ _ _ h => h) (Or.inl ⟨by rfl, ?hy65⟩) (by assumption) ?_
          case hy65 => (intro w hSw; (try dsimp only at hSw); go_simp; try with_reducible rfl)
          try simp only [Act.put, List.setIfInBounds_toArray, List.set_cons_zero, List.set_cons_succ]
          refine wpAnyH_take (i := 12) (oi := { dst := some 88, op := Go.Op.indexAddr 28 (Go.Operand.tmp 85) (Go.Operand.tmp 87), type := 0, pos := "ref.go:118", after := #[{ on := 9, ground := Go.Ground.data }, { on := 11, ground := Go.Ground.data }], guard := none }) (v := ?v66) rfl (by kernel_rfl) (by kernel_rfl) (by kernel_rfl) (fun _ _ _ h => h) (Or.inl ⟨by rfl, ?hy66⟩) (by assumption) ?_
          case hy66 => (intro w hSw; (try dsimp only at hSw); go_simp; try with_reducible rfl)
          try simp only [Act.put, List.setIfInBounds_toArray, List.set_cons_zero, List.set_cons_succ]
          refine wpAnyH_ready (rs := [8, 13]) (by kernel_rfl) (by simp) ?_
          refine (AllReadyH.cons (i := 8) (o := { dst := some 84, op := Go.Op.load 37 (Go.Operand.tmp 83), type := 37, pos := "ref.go:118", after := #[{ on := 7, ground := Go.Ground.data }], guard := none }) rfl (fun K' hK' => ?_) (AllReadyH.cons (i := 13) (o := { dst := some 89, op := Go.Op.load 37 (Go.Operand.tmp 88), type := 37, pos := "ref.go:118", after := #[{ on := 12, ground := Go.Ground.data }], guard := none }) rfl (fun K' hK' => ?_) AllReadyH.nil))
          · refine step_load_en rfl _ rfl rfl f0 f1 f2 ?_
            refine hK'.out _ _ trivial (fun hHeld => ?_)
            clear hK' K'
            try simp only [Act.put, List.setIfInBounds_toArray, List.set_cons_zero, List.set_cons_succ]
            refine wpAnyH_ready (rs := [13]) (by kernel_rfl) (by simp) ?_
            refine (AllReadyH.cons (i := 13) (o := { dst := some 89, op := Go.Op.load 37 (Go.Operand.tmp 88), type := 37, pos := "ref.go:118", after := #[{ on := 12, ground := Go.Ground.data }], guard := none }) rfl (fun K' hK' => ?_) AllReadyH.nil)
            refine step_load_en rfl _ rfl rfl e0 e1 e2 ?_
            refine hK'.out _ _ trivial (fun hHeld => ?_)
            clear hK' K'
            try simp only [Act.put, List.setIfInBounds_toArray, List.set_cons_zero, List.set_cons_succ]
            refine wpAnyH_take (i := 14) (oi := { dst := some 90, op := Go.Op.indexAddr 28 (Go.Operand.tmp 76) (Go.Operand.tmp 78), type := 0, pos := "ref.go:118", after := #[{ on := 0, ground := Go.Ground.data }, { on := 2, ground := Go.Ground.data }, { on := 0, ground := Go.Ground.phase }, { on := 1, ground := Go.Ground.phase }, { on := 2, ground := Go.Ground.phase }, { on := 3, ground := Go.Ground.textOnly Go.Departure.lateStores }, { on := 4, ground := Go.Ground.textOnly Go.Departure.lateStores }, { on := 5, ground := Go.Ground.phase }, { on := 6, ground := Go.Ground.phase }, { on := 7, ground := Go.Ground.phase }, { on := 8, ground := Go.Ground.phase }, { on := 9, ground := Go.Ground.textOnly Go.Departure.lateStores }, { on := 10, ground := Go.Ground.textOnly Go.Departure.lateStores }, { on := 11, ground := Go.Ground.textOnly Go.Departure.lateStores }, { on := 12, ground := Go.Ground.textOnly Go.Departure.lateStoresUnsure }, { on := 13, ground := Go.Ground.phase }], guard := none }) (v := ?v67) rfl (by kernel_rfl) (by kernel_rfl) (by kernel_rfl) (fun _ _ _ h => h) (Or.inl ⟨by rfl, ?hy67⟩) (by assumption) ?_
            case hy67 => (intro w hSw; (try dsimp only at hSw); go_simp; try with_reducible rfl)
            try simp only [Act.put, List.setIfInBounds_toArray, List.set_cons_zero, List.set_cons_succ]
            refine wpAnyH_ready (rs := [15]) (by kernel_rfl) (by simp) ?_
            refine (AllReadyH.cons (i := 15) (o := { dst := none, op := Go.Op.store 37 (Go.Operand.tmp 90) (Go.Operand.tmp 84), type := 0, pos := "ref.go:118", after := #[{ on := 14, ground := Go.Ground.data }, { on := 8, ground := Go.Ground.data }, { on := 0, ground := Go.Ground.phase }, { on := 1, ground := Go.Ground.phase }, { on := 2, ground := Go.Ground.phase }, { on := 3, ground := Go.Ground.textOnly Go.Departure.lateStores }, { on := 4, ground := Go.Ground.textOnly Go.Departure.lateStores }, { on := 5, ground := Go.Ground.phase }, { on := 6, ground := Go.Ground.phase }, { on := 7, ground := Go.Ground.phase }, { on := 8, ground := Go.Ground.phase }, { on := 9, ground := Go.Ground.textOnly Go.Departure.lateStores }, { on := 10, ground := Go.Ground.textOnly Go.Departure.lateStores }, { on := 11, ground := Go.Ground.textOnly Go.Departure.lateStores }, { on := 12, ground := Go.Ground.textOnly Go.Departure.lateStoresUnsure }, { on := 13, ground := Go.Ground.phase }], guard := none }) rfl (fun K' hK' => ?_) AllReadyH.nil)
            refine step_store_en rfl _ _ rfl rfl rfl hAd hpn hu2 hys hyc ?_
            intro wA hA1 hgA
            refine hK'.out _ _ trivial (fun hHeld => ?_)
            clear hK' K'
            try simp only [Act.put, List.setIfInBounds_toArray, List.set_cons_zero, List.set_cons_succ]
            refine wpAnyH_take (i := 16) (oi := { dst := some 91, op := Go.Op.indexAddr 28 (Go.Operand.tmp 79) (Go.Operand.tmp 80), type := 0, pos := "ref.go:118", after := #[{ on := 3, ground := Go.Ground.data }, { on := 4, ground := Go.Ground.data }, { on := 0, ground := Go.Ground.phase }, { on := 1, ground := Go.Ground.phase }, { on := 2, ground := Go.Ground.phase }, { on := 3, ground := Go.Ground.phase }, { on := 4, ground := Go.Ground.phase }, { on := 5, ground := Go.Ground.phase }, { on := 6, ground := Go.Ground.phase }, { on := 7, ground := Go.Ground.phase }, { on := 8, ground := Go.Ground.phase }, { on := 9, ground := Go.Ground.phase }, { on := 10, ground := Go.Ground.phase }, { on := 11, ground := Go.Ground.phase }, { on := 12, ground := Go.Ground.phase }, { on := 13, ground := Go.Ground.phase }, { on := 14, ground := Go.Ground.phase }, { on := 15, ground := Go.Ground.phase }], guard := none }) (v := ?v68) rfl (by kernel_rfl) (by kernel_rfl) (by kernel_rfl) (fun _ _ _ h => h) (Or.inl ⟨by rfl, ?hy68⟩) (by assumption) ?_
            case hy68 => (intro w hSw; (try dsimp only at hSw); go_simp; try with_reducible rfl)
            try simp only [Act.put, List.setIfInBounds_toArray, List.set_cons_zero, List.set_cons_succ]
            refine wpAnyH_ready (rs := [17]) (by kernel_rfl) (by simp) ?_
            refine (AllReadyH.cons (i := 17) (o := { dst := none, op := Go.Op.store 37 (Go.Operand.tmp 91) (Go.Operand.tmp 89), type := 0, pos := "ref.go:118", after := #[{ on := 16, ground := Go.Ground.data }, { on := 13, ground := Go.Ground.data }, { on := 15, ground := Go.Ground.chain }, { on := 0, ground := Go.Ground.phase }, { on := 1, ground := Go.Ground.phase }, { on := 2, ground := Go.Ground.phase }, { on := 3, ground := Go.Ground.phase }, { on := 4, ground := Go.Ground.phase }, { on := 5, ground := Go.Ground.phase }, { on := 6, ground := Go.Ground.phase }, { on := 7, ground := Go.Ground.phase }, { on := 8, ground := Go.Ground.phase }, { on := 9, ground := Go.Ground.phase }, { on := 10, ground := Go.Ground.phase }, { on := 11, ground := Go.Ground.phase }, { on := 12, ground := Go.Ground.phase }, { on := 13, ground := Go.Ground.phase }, { on := 14, ground := Go.Ground.phase }, { on := 15, ground := Go.Ground.phase }], guard := none }) rfl (fun K' hK' => ?_) AllReadyH.nil)
            refine step_store_en rfl _ _ rfl rfl rfl hA1 hqn (sl_grown hu1 hgA) hxs hxc ?_
            intro wB hA2 hgB'
            refine hK'.out _ _ trivial (fun hHeld => ?_)
            clear hK' K'
            try simp only [Act.put, List.setIfInBounds_toArray, List.set_cons_zero, List.set_cons_succ]
            refine wpAnyH_done (by kernel_rfl) ?_ _
            rw [hres.out] at hA2
            go_wp2_with fail
            exact ⟨⟨t', by omega, by go_num, grown_trans hgd (grown_trans hgA hgB'), hA2, hhi2⟩, by simp [intOf]; omega⟩
          · refine step_load_en rfl _ rfl rfl e0 e1 e2 ?_
            refine hK'.out _ _ trivial (fun hHeld => ?_)
            clear hK' K'
            try simp only [Act.put, List.setIfInBounds_toArray, List.set_cons_zero, List.set_cons_succ]
            refine wpAnyH_ready (rs := [8]) (by kernel_rfl) (by simp) ?_
            refine (AllReadyH.cons (i := 8) (o := { dst := some 84, op := Go.Op.load 37 (Go.Operand.tmp 83), type := 37, pos := "ref.go:118", after := #[{ on := 7, ground := Go.Ground.data }], guard := none }) rfl (fun K' hK' => ?_) AllReadyH.nil)
            refine step_load_en rfl _ rfl rfl f0 f1 f2 ?_
            refine hK'.out _ _ trivial (fun hHeld => ?_)
            clear hK' K'
            try simp only [Act.put, List.setIfInBounds_toArray, List.set_cons_zero, List.set_cons_succ]
            refine wpAnyH_take (i := 14) (oi := { dst := some 90, op := Go.Op.indexAddr 28 (Go.Operand.tmp 76) (Go.Operand.tmp 78), type := 0, pos := "ref.go:118", after := #[{ on := 0, ground := Go.Ground.data }, { on := 2, ground := Go.Ground.data }, { on := 0, ground := Go.Ground.phase }, { on := 1, ground := Go.Ground.phase }, { on := 2, ground := Go.Ground.phase }, { on := 3, ground := Go.Ground.textOnly Go.Departure.lateStores }, { on := 4, ground := Go.Ground.textOnly Go.Departure.lateStores }, { on := 5, ground := Go.Ground.phase }, { on := 6, ground := Go.Ground.phase }, { on := 7, ground := Go.Ground.phase }, { on := 8, ground := Go.Ground.phase }, { on := 9, ground := Go.Ground.textOnly Go.Departure.lateStores }, { on := 10, ground := Go.Ground.textOnly Go.Departure.lateStores }, { on := 11, ground := Go.Ground.textOnly Go.Departure.lateStores }, { on := 12, ground := Go.Ground.textOnly Go.Departure.lateStoresUnsure }, { on := 13, ground := Go.Ground.phase }], guard := none }) (v := ?v69) rfl (by kernel_rfl) (by kernel_rfl) (by kernel_rfl) (fun _ _ _ h => h) (Or.inl ⟨by rfl, ?hy69⟩) (by assumption) ?_
            case hy69 => (intro w hSw; (try dsimp only at hSw); go_simp; try with_reducible rfl)
            try simp only [Act.put, List.setIfInBounds_toArray, List.set_cons_zero, List.set_cons_succ]
            refine wpAnyH_ready (rs := [15]) (by kernel_rfl) (by simp) ?_
            refine (AllReadyH.cons (i := 15) (o := { dst := none, op := Go.Op.store 37 (Go.Operand.tmp 90) (Go.Operand.tmp 84), type := 0, pos := "ref.go:118", after := #[{ on := 14, ground := Go.Ground.data }, { on := 8, ground := Go.Ground.data }, { on := 0, ground := Go.Ground.phase }, { on := 1, ground := Go.Ground.phase }, { on := 2, ground := Go.Ground.phase }, { on := 3, ground := Go.Ground.textOnly Go.Departure.lateStores }, { on := 4, ground := Go.Ground.textOnly Go.Departure.lateStores }, { on := 5, ground := Go.Ground.phase }, { on := 6, ground := Go.Ground.phase }, { on := 7, ground := Go.Ground.phase }, { on := 8, ground := Go.Ground.phase }, { on := 9, ground := Go.Ground.textOnly Go.Departure.lateStores }, { on := 10, ground := Go.Ground.textOnly Go.Departure.lateStores }, { on := 11, ground := Go.Ground.textOnly Go.Departure.lateStores }, { on := 12, ground := Go.Ground.textOnly Go.Departure.lateStoresUnsure }, { on := 13, ground := Go.Ground.phase }], guard := none }) rfl (fun K' hK' => ?_) AllReadyH.nil)
            refine step_store_en rfl _ _ rfl rfl rfl hAd hpn hu2 hys hyc ?_
            intro wA hA1 hgA
            refine hK'.out _ _ trivial (fun hHeld => ?_)
            clear hK' K'
            try simp only [Act.put, List.setIfInBounds_toArray, List.set_cons_zero, List.set_cons_succ]
            refine wpAnyH_take (i := 16) (oi := { dst := some 91, op := Go.Op.indexAddr 28 (Go.Operand.tmp 79) (Go.Operand.tmp 80), type := 0, pos := "ref.go:118", after := #[{ on := 3, ground := Go.Ground.data }, { on := 4, ground := Go.Ground.data }, { on := 0, ground := Go.Ground.phase }, { on := 1, ground := Go.Ground.phase }, { on := 2, ground := Go.Ground.phase }, { on := 3, ground := Go.Ground.phase }, { on := 4, ground := Go.Ground.phase }, { on := 5, ground := Go.Ground.phase }, { on := 6, ground := Go.Ground.phase }, { on := 7, ground := Go.Ground.phase }, { on := 8, ground := Go.Ground.phase }, { on := 9, ground := Go.Ground.phase }, { on := 10, ground := Go.Ground.phase }, { on := 11, ground := Go.Ground.phase }, { on := 12, ground := Go.Ground.phase }, { on := 13, ground := Go.Ground.phase }, { on := 14, ground := Go.Ground.phase }, { on := 15, ground := Go.Ground.phase }], guard := none }) (v := ?v70) rfl (by kernel_rfl) (by kernel_rfl) (by kernel_rfl) (fun _ _ _ h => h) (Or.inl ⟨by rfl, ?hy70⟩) (by assumption) ?_
            case hy70 => (intro w hSw; (try dsimp only at hSw); go_simp; try with_reducible rfl)
            try simp only [Act.put, List.setIfInBounds_toArray, List.set_cons_zero, List.set_cons_succ]
            refine wpAnyH_ready (rs := [17]) (by kernel_rfl) (by simp) ?_
            refine (AllReadyH.cons (i := 17) (o := { dst := none, op := Go.Op.store 37 (Go.Operand.tmp 91) (Go.Operand.tmp 89), type := 0, pos := "ref.go:118", after := #[{ on := 16, ground := Go.Ground.data }, { on := 13, ground := Go.Ground.data }, { on := 15, ground := Go.Ground.chain }, { on := 0, ground := Go.Ground.phase }, { on := 1, ground := Go.Ground.phase }, { on := 2, ground := Go.Ground.phase }, { on := 3, ground := Go.Ground.phase }, { on := 4, ground := Go.Ground.phase }, { on := 5, ground := Go.Ground.phase }, { on := 6, ground := Go.Ground.phase }, { on := 7, ground := Go.Ground.phase }, { on := 8, ground := Go.Ground.phase }, { on := 9, ground := Go.Ground.phase }, { on := 10, ground := Go.Ground.phase }, { on := 11, ground := Go.Ground.phase }, { on := 12, ground := Go.Ground.phase }, { on := 13, ground := Go.Ground.phase }, { on := 14, ground := Go.Ground.phase }, { on := 15, ground := Go.Ground.phase }], guard := none }) rfl (fun K' hK' => ?_) AllReadyH.nil)
            refine step_store_en rfl _ _ rfl rfl rfl hA1 hqn (sl_grown hu1 hgA) hxs hxc ?_
            intro wB hA2 hgB'
            refine hK'.out _ _ trivial (fun hHeld => ?_)
            clear hK' K'
            try simp only [Act.put, List.setIfInBounds_toArray, List.set_cons_zero, List.set_cons_succ]
            refine wpAnyH_done (by kernel_rfl) ?_ _
            rw [hres.out] at hA2
            go_wp2_with fail
            exact ⟨⟨t', by omega, by go_num, grown_trans hgd (grown_trans hgA hgB'), hA2, hhi2⟩, by simp [intOf]; omega⟩
end Go.Proofs.YtonadloonidmjaaDoor
namespace Go.Proofs.YtonadloonidmjaaDoor
open Go.RowKit
open Pl

/-- The stable sort of the elements of a valid list with one word. -/
theorem stable_at {g : List En} (hv : validG g = true) (y : List Int) (hne : atW g y ≠ []) : StableAt (atW g y) := by
  have h1 := validG_len hv
  have h2 := atW_len g y
  refine stable_any (atW_dt (validG_sorted hv) y) ?_ (by omega)
  rcases Nat.eq_zero_or_pos (atW g y).length with h | h
  · exact absurd (List.eq_nil_of_length_eq_zero h) hne
  · exact h
set_option maxRecDepth 100000 in
set_option maxHeartbeats 8000000 in
theorem guesses_walk {v u : Value} {g : List En} {x : List Int} {w : World} (hT : Tb w) (h : Rd tEn w v g) (hx : Rd tInt w u x) :
    Calls Tryd.prog 6 #[v, u] w fun e w' => e = .returned (.bool true) ∧ Bw w w' := by
  obtain ⟨A, N, c, rfl, _, _, hN⟩ := h.form'
  obtain ⟨A', n', c', rfl, _, _, hn'⟩ := hx.form'
  have HA := Lib.hid (fun (W : World) (kk : Bw w W) => awake_any (hT.after kk))
  by_cases h3 : 300 < N
  · have z1 : (300 : Int) < (N : Int) := by omega
    go_enter Tryd.func6, Tryd.ntmps6
    go_wp2_with (go_at_call 9; (with_reducible refine (HA.out _ (Below.refl _ _)).mono ?_); rintro e w2 ⟨rfl, hb2⟩)
    go_ret
    exact ⟨rfl, hb2⟩
  have z1 : ¬ (300 : Int) < (N : Int) := by omega
  by_cases h4 : 250 < n'
  · have z2 : (250 : Int) < (n' : Int) := by omega
    go_enter Tryd.func6, Tryd.ntmps6
    go_wp2_with (go_at_call 9; (with_reducible refine (HA.out _ (Below.refl _ _)).mono ?_); rintro e w2 ⟨rfl, hb2⟩)
    go_ret
    exact ⟨rfl, hb2⟩
  have z2 : ¬ (250 : Int) < (n' : Int) := by omega
  have hG1 := Lib.hid (guess_any hT h hx stable_at)
  have hG2 := Lib.hid (fun (W : World) (kk : Bw w W) => rguess_any (h.after kk) (hx.after kk))
  have HH := Lib.hid h
  unfold GuessR at hG1 hG2
  generalize guessP g x = p at *
  obtain ⟨G, E⟩ := p
  have hE : (E == E) = true := beq_self_eq_true E
  have hsame : same G G = true := by unfold same; exact decide_eq_true rfl
  clear hx hT h h3 h4
  go_enter Tryd.func6, Tryd.ntmps6
  go_wp2_with fail
  go_loopw [5] (fun i wr => ∃ k : Nat, k ≤ N ∧ i = .int .i64 k ∧ wr = w) (fun i _ => N - (intOf i).toNat)
  case atStart => exact ⟨0, Nat.zero_le _, rfl, rfl⟩
  case round =>
    obtain ⟨k, hk, rfl, rfl⟩ := hrel
    by_cases hlt : k < N
    · obtain ⟨b, off, y, u1, rfl, hy, hys, hyc, hu, e0, e1, e2⟩ := HH.out.en (k := k) (by have := hN.out; omega)
      obtain ⟨A1, n1, c1, rfl, _, _, _⟩ := hu.form'
      clear hu hG1 hG2
      by_cases h5 : 250 < n1
      · have z3 : (250 : Int) < (n1 : Int) := by omega
        go_wp2_with (go_at_call 9; (with_reducible refine (HA.out _ (Below.refl _ _)).mono ?_); rintro e w2 ⟨rfl, hb2⟩)
        go_ret
        exact ⟨rfl, hb2⟩
      have z3 : ¬ (250 : Int) < (n1 : Int) := by omega
      by_cases h6 : 300 < y.2.1.size
      · have z4 : (300 : Int) < (y.2.1.size : Int) := by omega
        go_wp2_with (go_at_call 9; (with_reducible refine (HA.out _ (Below.refl _ _)).mono ?_); rintro e w2 ⟨rfl, hb2⟩)
        go_ret
        exact ⟨rfl, hb2⟩
      have z4 : ¬ (300 : Int) < (y.2.1.size : Int) := by omega
      go_wp2_with fail
      exact ⟨⟨k + 1, hlt, by go_num, (by first | trivial | rfl)⟩, by simp [intOf]; omega⟩
    · have z3 : ¬ (k : Int) < (N : Int) := by omega
      clear HH
      go_wp2_with fail
      with_reducible refine hG1.out.mono ?_
      rintro e w2 ⟨v2, rfl, k2, hv2⟩
      have Hv2 := Lib.hid hv2
      clear hG1 hv2
      go_wp2_with fail
      with_reducible refine (hG2.out _ k2).mono ?_
      rintro e w3 ⟨v3, rfl, q3, hv3⟩
      have k3 := k2.then q3
      have HS := Lib.hid (val_of (congrArg Value.bool hsame) (sameE_any (bw_hi Hv2.out q3) hv3.rd))
      clear hG2 hv3 Hv2 hsame
      go_wp2_with (first | (go_at_call 11; (with_reducible refine HS.out.mono ?_); rintro e w4 ⟨rfl, q4⟩; have k4 := k3.then q4.bw) | (go_at_call 9; (with_reducible refine (HA.out _ k4).mono ?_); rintro e w8 ⟨rfl, q8⟩))
      go_ret
      exact ⟨rfl, k4.then q8⟩
end Go.Proofs.YtonadloonidmjaaDoor

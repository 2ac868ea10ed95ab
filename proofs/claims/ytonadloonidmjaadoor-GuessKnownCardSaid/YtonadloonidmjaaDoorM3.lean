/- Several texts in one: HF, HG, HH, HK. Conditions: as each theorem says. -/
import Derived.Test.YtonadloonidmjaaDoorM1
import Derived.Test.YtonadloonidmjaaDoorM2
namespace Go.Proofs.YtonadloonidmjaaDoor
open Go.RowKit
open Pl

/-- What a merge leaves: the part X in order, all else as it was but for new blocks. -/
def MrgR (g base n cap : Nat) (w : World) (P X S : List En) (e : Ending) (w' : World) : Prop := e = .returned (.tuple #[]) ∧ ∃ C, C.Perm X ∧ LS C ∧ Acc tEn 37 w' base (.slice (some ⟨g, 0, none⟩) n cap) (P ++ (C ++ S)) ∧ w.grownBy w' (some g)
theorem grown_bw {a b : World} (h : Bw a b) (r : Option Nat) : a.grownBy b r := ⟨h.os, h.tape, h.output, h.size, fun k hk _ => h.block k hk⟩
theorem cmpI_neg {x y : Int} : cmpI x y < 0 ↔ x < y := by
  unfold cmpI
  by_cases h1 : x < y
  · rw [if_pos h1]; exact ⟨fun _ => h1, fun _ => by decide⟩
  · rw [if_neg h1]
    refine ⟨fun h => ?_, fun h => absurd h h1⟩
    split at h
    · exact absurd h (by decide)
    · exact absurd h (by decide)
theorem acc_len {T : Type} {K : Ty T} {e : TypeId} {w : World} {base n cap : Nat} {A : Option Addr} {xs : List T} (h : Acc K e w base (.slice A n cap) xs) : n = xs.length := by
  obtain ⟨_, _, e1, _, _⟩ := h.form
  injection e1
theorem at_seg {α : Type} (P X S : List α) {i p : Nat} {x : α} (hp : p = P.length + i) (h : i < X.length) (hx : (P ++ (X ++ S))[p]? = some x) : X[i]? = some x := by
  rw [hp, at_mid _ _ _ h] at hx; exact hx
/-- The comparer's call. -/
theorem likes_at {u1 u2 s1 s2 : Value} {c1 c2 : Int} (w : World) :
    Hid (∀ W, Bw w W → Calls Tryd.prog 32 #[.agg #[u1, s1, .int .i64 c1], .agg #[u2, s2, .int .i64 c2]] W fun e w' => e = .returned (.int .i64 (cmpI c2 c1)) ∧ Bw W w') := fun _ _ => likes_any.mono fun _ _ h => ⟨h.1, h.2.bw⟩

set_option linter.unusedSimpArgs false in
set_option maxRecDepth 100000 in
set_option maxHeartbeats 16000000 in
theorem mergeL_any {g base n cap a m b : Nat} {w : World} {P B S : List En} {x : En} (h : Acc tEn 37 w base (.slice (some ⟨g, 0, none⟩) n cap) (P ++ (x :: B ++ S))) (ha : a = P.length) (hm : m = P.length + 1) (hb : b = P.length + 1 + B.length) (hB : LS B) (hT : TL [x] B) (hn : n ≤ 1000000) :
    Calls Tryd.prog 71 #[.slice (some ⟨g, 0, none⟩) n cap, .int .i64 a, .int .i64 m, .int .i64 b, .func (.func 32) #[] #[]] w (MrgR g base n cap w P (x :: B) S) := by
  have hlen : n = P.length + 1 + B.length + S.length := by rw [acc_len h]; simp; omega
  have hma : (m : Int) - (a : Int) = 1 := by omega
  have hbn : b ≤ n := by omega
  have ham : a < m := by omega
  have hmb : m ≤ b := by omega
  have Ha := Lib.hid ha
  have Hm := Lib.hid hm
  have Hb := Lib.hid hb
  have Hh := Lib.hid h
  clear ha hm hb hlen h
  go_enter Tryd.func71, Tryd.ntmps71
  go_wp2_with fail
  go_loopw [10, 11] (fun i j wr => ∃ p q : Nat, m ≤ p ∧ p ≤ q ∧ q ≤ b ∧ i = .int .i64 p ∧ j = .int .i64 q ∧ Bw w wr ∧ Hid (m < p → x.2.2 < cA B (p - 1 - m)) ∧ Hid (q < b → cA B (q - m) ≤ x.2.2)) (fun i j _ => (intOf j).toNat - (intOf i).toNat)
  case atStart => exact ⟨m, b, Nat.le_refl _, hmb, Nat.le_refl _, rfl, rfl, Below.refl _ _, fun h => absurd h (by omega), fun h => absurd h (by omega)⟩
  case round =>
    obtain ⟨p, q, hmp, hpq, hqb, rfl, rfl, hd, hlo, hhi⟩ := hrel
    by_cases hlt : p < q
    · have hmid := mid_eq (p := p) (q := q) (by omega) (by omega)
      obtain ⟨c, hme⟩ : ∃ c, c = (p + q) / 2 := ⟨_, rfl⟩
      have hm1 : p ≤ c := by omega
      have hm2 : c < q := by omega
      rw [← hme] at hmid
      have hmid2 : ((p : Int) + (q : Int)) / 2 = (c : Int) := by omega
      clear hme
      have hA := Hh.out.after hd
      have hcn : c < n := by omega
      have han : a < n := by omega
      obtain ⟨y, u1, hy, hys, hyc, hu1, e0, e1, e2⟩ := hA.en' (k := c) hcn
      obtain ⟨x', u2, hx, hxs, hxc, hu2, f0, f1, f2⟩ := hA.en' (k := a) han
      obtain ⟨A1, n1, k1, rfl, _, _, _⟩ := hu1.form'
      obtain ⟨A2, n2, k2, rfl, _, _, _⟩ := hu2.form'
      have hxx : x' = x := by
        have h1 := at_seg P (x :: B) S (i := 0) (by rw [Ha.out]; rfl) (by simp) hx.out
        injection h1 with h1
        exact h1.symm
      subst hxx
      have hyB : Hid (cA B (c - m) = y.2.2) := by
        have h1 := at_seg P (x' :: B) S (i := c - m + 1) (by rw [Hm.out] at hmp ⊢; omega) (by have := Hb.out; have := Hm.out; simp; omega) hy.out
        rw [List.getElem?_cons_succ] at h1
        exact cA_of h1
      have HO2 := likes_at (u1 := .slice A1 n1 k1) (s1 := .string y.2.1) (c1 := y.2.2) (u2 := .slice A2 n2 k2) (s2 := .string x'.2.1) (c2 := x'.2.2) wr
      have HZ : Hid (cmpI x'.2.2 y.2.2 < 0 ↔ x'.2.2 < cA B (c - m)) := by show _ ↔ _; rw [hyB.out]; exact cmpI_neg
      have K0 : ∀ W, Bw wr W → (W.cell? ⟨g, c * 3, none⟩ = some (.slice A1 n1 k1) ∧ W.cell? ⟨g, c * 3 + 1, none⟩ = some (.string y.2.1) ∧ W.cell? ⟨g, c * 3 + 2, none⟩ = some (.int .i64 y.2.2) ∧ W.cell? ⟨g, a * 3, none⟩ = some (.slice A2 n2 k2) ∧ W.cell? ⟨g, a * 3 + 1, none⟩ = some (.string x'.2.1) ∧ W.cell? ⟨g, a * 3 + 2, none⟩ = some (.int .i64 x'.2.2)) := fun W kk =>
        ⟨bw_cell kk e0, bw_cell kk e1, bw_cell kk e2, bw_cell kk f0, bw_cell kk f1, bw_cell kk f2⟩
      generalize cmpI x'.2.2 y.2.2 = z at *
      clear hA hu1 hu2 hy hx e0 e1 e2 f0 f1 f2 hyB hyc hys hxc hxs hB hT
      go_wp2_with fail
      refine wp_region_held_drew (S := fun u => u.cell? ⟨g, c * 3, none⟩ = some (.slice A1 n1 k1) ∧ u.cell? ⟨g, c * 3 + 1, none⟩ = some (.string y.2.1) ∧ u.cell? ⟨g, c * 3 + 2, none⟩ = some (.int .i64 y.2.2) ∧ u.cell? ⟨g, a * 3, none⟩ = some (.slice A2 n2 k2) ∧ u.cell? ⟨g, a * 3 + 1, none⟩ = some (.string x'.2.1) ∧ u.cell? ⟨g, a * 3 + 2, none⟩ = some (.int .i64 x'.2.2)) (by kernel_rfl) ?_ (fun hHeld => ?_)
      · exact K0 _ (Bw.drew (Below.refl _ _))
      refine wpAnyH_take (i := 0) (oi := { dst := some 40, op := Go.Op.move (Go.Operand.tmp 4), type := 52, pos := "zsortanyfunc.go:390", after := #[], guard := none }) (v := ?v1) rfl (by kernel_rfl) (by kernel_rfl) (by kernel_rfl) (fun _ _ _ h => h) (Or.inl ⟨by rfl, ?hy1⟩) (by assumption) ?_
      case hy1 => (intro w hSw; (try dsimp only at hSw); go_simp; try with_reducible rfl)
      try simp only [Act.put, List.setIfInBounds_toArray, List.set_cons_zero, List.set_cons_succ]
      refine wpAnyH_take (i := 1) (oi := { dst := some 41, op := Go.Op.move (Go.Operand.tmp 0), type := 28, pos := "zsortanyfunc.go:390", after := #[], guard := none }) (v := ?v2) rfl (by kernel_rfl) (by kernel_rfl) (by kernel_rfl) (fun _ _ _ h => h) (Or.inl ⟨by rfl, ?hy2⟩) (by assumption) ?_
      case hy2 => (intro w hSw; (try dsimp only at hSw); go_simp; try with_reducible rfl)
      try simp only [Act.put, List.setIfInBounds_toArray, List.set_cons_zero, List.set_cons_succ]
      refine wpAnyH_take (i := 2) (oi := { dst := some 42, op := Go.Op.move (Go.Operand.tmp 12), type := 3, pos := "zsortanyfunc.go:390", after := #[], guard := none }) (v := ?v3) rfl (by kernel_rfl) (by kernel_rfl) (by kernel_rfl) (fun _ _ _ h => h) (Or.inl ⟨by rfl, ?hy3⟩) (by assumption) ?_
      case hy3 => (intro w hSw; (try dsimp only at hSw); go_simp; try with_reducible rfl)
      try simp only [Act.put, List.setIfInBounds_toArray, List.set_cons_zero, List.set_cons_succ]
      refine wpAnyH_take (i := 3) (oi := { dst := some 43, op := Go.Op.indexAddr 28 (Go.Operand.tmp 41) (Go.Operand.tmp 42), type := 0, pos := "zsortanyfunc.go:390", after := #[{ on := 1, ground := Go.Ground.data }, { on := 2, ground := Go.Ground.data }], guard := none }) (v := ?v4) rfl (by kernel_rfl) (by kernel_rfl) (by kernel_rfl) (fun _ _ _ h => h) (Or.inl ⟨by rfl, ?hy4⟩) (by assumption) ?_
      case hy4 => (intro w hSw; (try dsimp only at hSw); go_simp; try with_reducible rfl)
      try simp only [Act.put, List.setIfInBounds_toArray, List.set_cons_zero, List.set_cons_succ]
      refine wpAnyH_take (i := 4) (oi := { dst := some 44, op := Go.Op.load 37 (Go.Operand.tmp 43), type := 37, pos := "zsortanyfunc.go:390", after := #[{ on := 3, ground := Go.Ground.data }], guard := none }) (v := ?v5) rfl (by kernel_rfl) (by kernel_rfl) (by kernel_rfl) (fun _ _ _ h => h) (Or.inl ⟨by rfl, ?hy5⟩) (by assumption) ?_
      case hy5 => (intro w hSw; (try dsimp only at hSw); go_simp; try with_reducible rfl)
      try simp only [Act.put, List.setIfInBounds_toArray, List.set_cons_zero, List.set_cons_succ]
      refine wpAnyH_take (i := 5) (oi := { dst := some 45, op := Go.Op.move (Go.Operand.tmp 0), type := 28, pos := "zsortanyfunc.go:390", after := #[], guard := none }) (v := ?v6) rfl (by kernel_rfl) (by kernel_rfl) (by kernel_rfl) (fun _ _ _ h => h) (Or.inl ⟨by rfl, ?hy6⟩) (by assumption) ?_
      case hy6 => (intro w hSw; (try dsimp only at hSw); go_simp; try with_reducible rfl)
      try simp only [Act.put, List.setIfInBounds_toArray, List.set_cons_zero, List.set_cons_succ]
      refine wpAnyH_take (i := 6) (oi := { dst := some 46, op := Go.Op.move (Go.Operand.tmp 1), type := 3, pos := "zsortanyfunc.go:390", after := #[], guard := none }) (v := ?v7) rfl (by kernel_rfl) (by kernel_rfl) (by kernel_rfl) (fun _ _ _ h => h) (Or.inl ⟨by rfl, ?hy7⟩) (by assumption) ?_
      case hy7 => (intro w hSw; (try dsimp only at hSw); go_simp; try with_reducible rfl)
      try simp only [Act.put, List.setIfInBounds_toArray, List.set_cons_zero, List.set_cons_succ]
      refine wpAnyH_take (i := 7) (oi := { dst := some 47, op := Go.Op.indexAddr 28 (Go.Operand.tmp 45) (Go.Operand.tmp 46), type := 0, pos := "zsortanyfunc.go:390", after := #[{ on := 5, ground := Go.Ground.data }, { on := 6, ground := Go.Ground.data }], guard := none }) (v := ?v8) rfl (by kernel_rfl) (by kernel_rfl) (by kernel_rfl) (fun _ _ _ h => h) (Or.inl ⟨by rfl, ?hy8⟩) (by assumption) ?_
      case hy8 => (intro w hSw; (try dsimp only at hSw); go_simp; try with_reducible rfl)
      try simp only [Act.put, List.setIfInBounds_toArray, List.set_cons_zero, List.set_cons_succ]
      refine wpAnyH_take (i := 8) (oi := { dst := some 48, op := Go.Op.load 37 (Go.Operand.tmp 47), type := 37, pos := "zsortanyfunc.go:390", after := #[{ on := 7, ground := Go.Ground.data }], guard := none }) (v := ?v9) rfl (by kernel_rfl) (by kernel_rfl) (by kernel_rfl) (fun _ _ _ h => h) (Or.inl ⟨by rfl, ?hy9⟩) (by assumption) ?_
      case hy9 => (intro w hSw; (try dsimp only at hSw); go_simp; try with_reducible rfl)
      try simp only [Act.put, List.setIfInBounds_toArray, List.set_cons_zero, List.set_cons_succ]
      refine wpAnyH_ready (rs := [9]) (by kernel_rfl) (by simp) ?_
      refine (AllReadyH.cons (i := 9) (o := { dst := some 49, op := Go.Op.call { callee := Go.Callee.value (Go.Operand.tmp 40), args := #[Go.Operand.tmp 44, Go.Operand.tmp 48], argTypes := #[37, 37] }, type := 3, pos := "zsortanyfunc.go:390", after := #[{ on := 0, ground := Go.Ground.data }, { on := 4, ground := Go.Ground.data }, { on := 8, ground := Go.Ground.data }], guard := none }) rfl (fun K' hK' => ?_) AllReadyH.nil)
      go_simp
      with_reducible refine (HO2.out _ (by (repeat' first | with_reducible exact Below.refl _ _ | with_reducible assumption | with_reducible refine Bw.drew ?_ | with_reducible refine Bw.drewN ?_ _ | with_reducible refine bw_al ?_ _ | with_reducible refine Bw.then ?_ (by with_reducible assumption)))).mono ?_
      rintro e wA ⟨rfl, hbA⟩
      try dsimp only
      refine hK'.out _ _ ?_ (fun hHeld => ?_)
      · exact K0 _ (by (repeat' first | with_reducible exact Below.refl _ _ | with_reducible assumption | with_reducible refine Bw.drew ?_ | with_reducible refine Bw.drewN ?_ _ | with_reducible refine bw_al ?_ _ | with_reducible refine Bw.then ?_ (by with_reducible assumption)))
      clear hK' K'
      try simp only [Act.put, List.setIfInBounds_toArray, List.set_cons_zero, List.set_cons_succ]
      refine wpAnyH_take (i := 10) (oi := { dst := some 50, op := Go.Op.binOp Go.BinOp.lss 3 (Go.Operand.tmp 49) (Go.Operand.const (Go.Value.int Go.IntKind.i64 0)) 3, type := 4, pos := "zsortanyfunc.go:390", after := #[{ on := 9, ground := Go.Ground.data }], guard := none }) (v := ?v10) rfl (by kernel_rfl) (by kernel_rfl) (by kernel_rfl) (fun _ _ _ h => h) (Or.inl ⟨by rfl, ?hy10⟩) (by assumption) ?_
      case hy10 => (intro w hSw; (try dsimp only at hSw); go_simp; try with_reducible rfl)
      try simp only [Act.put, List.setIfInBounds_toArray, List.set_cons_zero, List.set_cons_succ]
      refine wpAnyH_done (by kernel_rfl) ?_ _
      by_cases hz : z < 0
      · have hzd := decide_eq_true hz
        go_wp2_with fail
        exact ⟨⟨c + 1, q, by omega, by omega, hqb, by go_num, rfl, hd.then (by (repeat' first | with_reducible exact Below.refl _ _ | with_reducible assumption | with_reducible refine Bw.drew ?_ | with_reducible refine Bw.drewN ?_ _ | with_reducible refine bw_al ?_ _ | with_reducible refine Bw.then ?_ (by with_reducible assumption))), fun _ => by rw [Nat.add_sub_cancel]; exact HZ.out.1 hz, hhi⟩, by simp [intOf]; omega⟩
      · have hzd := decide_eq_false hz
        go_wp2_with fail
        exact ⟨⟨p, c, hmp, hm1, by omega, rfl, rfl, hd.then (by (repeat' first | with_reducible exact Below.refl _ _ | with_reducible assumption | with_reducible refine Bw.drew ?_ | with_reducible refine Bw.drewN ?_ _ | with_reducible refine bw_al ?_ _ | with_reducible refine Bw.then ?_ (by with_reducible assumption))), hlo, fun _ => Int.not_lt.1 fun h => hz (HZ.out.2 h)⟩, by simp [intOf]; omega⟩
    · have hpq' : p = q := by omega
      subst hpq'
      obtain ⟨e, he⟩ : ∃ e, e = p - m := ⟨_, rfl⟩
      have hle : e ≤ B.length := by have := Hb.out; have := Hm.out; omega
      have hfin : Hid (LS (mvL x B e) ∧ (mvL x B e).Perm (x :: B)) := by
        refine ⟨LS_left hB hT (fun h1 => ?_) (fun h1 => ?_) hle, ?_⟩
        · have h2 := hlo.out (by omega)
          rwa [show p - 1 - m = e - 1 by omega] at h2
        · have h2 := hhi.out (by have := Hb.out; have := Hm.out; omega)
          rw [← he] at h2
          exact Int.not_lt.2 h2
        · unfold mvL
          refine List.perm_middle.trans ?_
          rw [List.take_append_drop]
      have hpe : p = a + 1 + e := by have := Ha.out; have := Hm.out; omega
      have hpi : (p : Int) - 1 = ((a + e : Nat) : Int) := by omega
      obtain ⟨t1, ht1⟩ : ∃ t1, t1 = a + e := ⟨_, rfl⟩
      rw [← ht1] at hpi
      have ht1n : t1 < n := by omega
      have hA := Hh.out.after hd
      have hgr0 := grown_bw hd (some g)
      clear hlo hhi hB hT Hh he
      go_wp2_with fail
      rename World => W1
      go_loopw [13] (fun i wq => ∃ t : Nat, t ≤ e ∧ i = .int .i64 ((a + t : Nat) : Int) ∧ w.grownBy wq (some g) ∧ Acc tEn 37 wq base (.slice (some ⟨g, 0, none⟩) n cap) (P ++ (mvL x B t ++ S))) (fun i _ => t1 - (intOf i).toNat)
      case atStart => exact ⟨0, Nat.zero_le _, rfl, hgr0, by rw [mvL_zero]; exact hA⟩
      case round =>
        obtain ⟨t, hte, rfl, hgr, hAt⟩ := hrel
        by_cases hlt2 : t < e
        · obtain ⟨p1, hp1⟩ : ∃ p1, p1 = a + t := ⟨_, rfl⟩
          obtain ⟨q1, hq1⟩ : ∃ q1, q1 = p1 + 1 := ⟨_, rfl⟩
          rw [← hp1]
          have hqi : (p1 : Int) + 1 = (q1 : Int) := by omega
          have hqw : IntKind.i64.wrap (q1 : Int) = (q1 : Int) := by simp [IntKind.wrap, IntKind.bits, IntKind.signed]; omega
          have hpn : p1 < n := by omega
          have hqn : q1 < n := by omega
          have hpt : (p1 : Int) < (t1 : Int) := by omega
          obtain ⟨x1, u1, hx, hxs, hxc, hu1, e0, e1, e2⟩ := hAt.en' (k := p1) hpn
          obtain ⟨y, u2, hy, hys, hyc, hu2, f0, f1, f2⟩ := hAt.en' (k := q1) hqn
          have hml : (mvL x B t).length = B.length + 1 := mvL_len
          have hx1 : x1 = x := by
            have h1 := at_seg P (mvL x B t) S (i := t) (by rw [hp1, Ha.out]) (by omega) hx.out
            rw [mvL_at (by omega), if_neg (by omega), if_pos rfl] at h1
            injection h1 with h1
            exact h1.symm
          subst hx1
          have hyB : B[t]? = some y := by
            have h1 := at_seg P (mvL x1 B t) S (i := t + 1) (by rw [hq1, hp1, Ha.out]; omega) (by omega) hy.out
            rw [mvL_at (by omega), if_neg (by omega), if_neg (by omega)] at h1
            exact h1
          have hres : Hid (((P ++ (mvL x1 B t ++ S)).set p1 y).set q1 x1 = P ++ (mvL x1 B (t + 1) ++ S)) := by
            show _ = _
            rw [hq1, hp1, Ha.out, set_mid _ _ _ _ (by omega), Nat.add_assoc, set_mid _ _ _ _ (by rw [List.length_set]; omega), mvL_up (by omega) hyB]
          have Hp1 := Lib.hid hp1
          have Hq1 := Lib.hid hq1
          have hpq : p1 ≠ q1 := by omega
          clear hp1 hq1 hx hy hyB hml
          have hAd := hAt.after (Below.refl _ _).drew
          have hu1 : Sl tInt wr.drew (fun b => base ≤ b ∧ some b ≠ some g) u1 x1.1 := hu1
          have hu2 : Sl tInt wr.drew (fun b => base ≤ b ∧ some b ≠ some g) u2 y.1 := hu2
          have hgd : w.grownBy wr.drew (some g) := grown_drew hgr
          clear hAt hgr hA
          go_wp2_with fail
          refine wp_region_held_drew (S := fun _ => True) (by kernel_rfl) trivial (fun hHeld => ?_)
          refine wpAnyH_take (i := 0) (oi := { dst := some 61, op := Go.Op.move (Go.Operand.tmp 0), type := 28, pos := "zsortanyfunc.go:398", after := #[], guard := none }) (v := ?v11) rfl (by kernel_rfl) (by kernel_rfl) (by kernel_rfl) (fun _ _ _ h => h) (Or.inl ⟨by rfl, ?hy11⟩) (by assumption) ?_
          case hy11 => (intro w hSw; (try dsimp only at hSw); go_simp; try with_reducible rfl)
          try simp only [Act.put, List.setIfInBounds_toArray, List.set_cons_zero, List.set_cons_succ]
          refine wpAnyH_take (i := 1) (oi := { dst := some 62, op := Go.Op.move (Go.Operand.tmp 13), type := 3, pos := "zsortanyfunc.go:398", after := #[], guard := none }) (v := ?v12) rfl (by kernel_rfl) (by kernel_rfl) (by kernel_rfl) (fun _ _ _ h => h) (Or.inl ⟨by rfl, ?hy12⟩) (by assumption) ?_
          case hy12 => (intro w hSw; (try dsimp only at hSw); go_simp; try with_reducible rfl)
          try simp only [Act.put, List.setIfInBounds_toArray, List.set_cons_zero, List.set_cons_succ]
          refine wpAnyH_take (i := 2) (oi := { dst := some 63, op := Go.Op.move (Go.Operand.tmp 0), type := 28, pos := "zsortanyfunc.go:398", after := #[{ on := 15, ground := Go.Ground.gcOnly Go.Departure.lateStores }], guard := none }) (v := ?v13) rfl (by kernel_rfl) (by kernel_rfl) (by kernel_rfl) (fun _ _ _ h => h) (Or.inl ⟨by rfl, ?hy13⟩) (by assumption) ?_
          case hy13 => (intro w hSw; (try dsimp only at hSw); go_simp; try with_reducible rfl)
          try simp only [Act.put, List.setIfInBounds_toArray, List.set_cons_zero, List.set_cons_succ]
          refine wpAnyH_take (i := 3) (oi := { dst := some 64, op := Go.Op.move (Go.Operand.tmp 13), type := 3, pos := "zsortanyfunc.go:398", after := #[{ on := 15, ground := Go.Ground.gcOnly Go.Departure.lateStores }], guard := none }) (v := ?v14) rfl (by kernel_rfl) (by kernel_rfl) (by kernel_rfl) (fun _ _ _ h => h) (Or.inl ⟨by rfl, ?hy14⟩) (by assumption) ?_
          case hy14 => (intro w hSw; (try dsimp only at hSw); go_simp; try with_reducible rfl)
          try simp only [Act.put, List.setIfInBounds_toArray, List.set_cons_zero, List.set_cons_succ]
          refine wpAnyH_take (i := 4) (oi := { dst := some 65, op := Go.Op.binOp Go.BinOp.add 3 (Go.Operand.tmp 64) (Go.Operand.const (Go.Value.int Go.IntKind.i64 1)) 3, type := 3, pos := "zsortanyfunc.go:398", after := #[{ on := 3, ground := Go.Ground.data }, { on := 15, ground := Go.Ground.gcOnly Go.Departure.lateStores }], guard := none }) (v := ?v15) rfl (by kernel_rfl) (by kernel_rfl) (by kernel_rfl) (fun _ _ _ h => h) (Or.inl ⟨by rfl, ?hy15⟩) (by assumption) ?_
          case hy15 => (intro w hSw; (try dsimp only at hSw); go_simp; try with_reducible rfl)
          try simp only [Act.put, List.setIfInBounds_toArray, List.set_cons_zero, List.set_cons_succ]
          refine wpAnyH_take (i := 5) (oi := { dst := some 66, op := Go.Op.move (Go.Operand.tmp 0), type := 28, pos := "zsortanyfunc.go:398", after := #[], guard := none }) (v := ?v16) rfl (by kernel_rfl) (by kernel_rfl) (by kernel_rfl) (fun _ _ _ h => h) (Or.inl ⟨by rfl, ?hy16⟩) (by assumption) ?_
          case hy16 => (intro w hSw; (try dsimp only at hSw); go_simp; try with_reducible rfl)
          try simp only [Act.put, List.setIfInBounds_toArray, List.set_cons_zero, List.set_cons_succ]
          refine wpAnyH_take (i := 6) (oi := { dst := some 67, op := Go.Op.move (Go.Operand.tmp 13), type := 3, pos := "zsortanyfunc.go:398", after := #[], guard := none }) (v := ?v17) rfl (by kernel_rfl) (by kernel_rfl) (by kernel_rfl) (fun _ _ _ h => h) (Or.inl ⟨by rfl, ?hy17⟩) (by assumption) ?_
          case hy17 => (intro w hSw; (try dsimp only at hSw); go_simp; try with_reducible rfl)
          try simp only [Act.put, List.setIfInBounds_toArray, List.set_cons_zero, List.set_cons_succ]
          refine wpAnyH_take (i := 7) (oi := { dst := some 68, op := Go.Op.binOp Go.BinOp.add 3 (Go.Operand.tmp 67) (Go.Operand.const (Go.Value.int Go.IntKind.i64 1)) 3, type := 3, pos := "zsortanyfunc.go:398", after := #[{ on := 6, ground := Go.Ground.data }], guard := none }) (v := ?v18) rfl (by kernel_rfl) (by kernel_rfl) (by kernel_rfl) (fun _ _ _ h => h) (Or.inl ⟨by rfl, ?hy18⟩) (by assumption) ?_
          case hy18 => (intro w hSw; (try dsimp only at hSw); go_simp; try with_reducible rfl)
          try simp only [Act.put, List.setIfInBounds_toArray, List.set_cons_zero, List.set_cons_succ]
          refine wpAnyH_take (i := 8) (oi := { dst := some 69, op := Go.Op.indexAddr 28 (Go.Operand.tmp 66) (Go.Operand.tmp 68), type := 0, pos := "zsortanyfunc.go:398", after := #[{ on := 5, ground := Go.Ground.data }, { on := 7, ground := Go.Ground.data }], guard := none }) (v := ?v19) rfl (by kernel_rfl) (by kernel_rfl) (by kernel_rfl) (fun _ _ _ h => h) (Or.inl ⟨by rfl, ?hy19⟩) (by assumption) ?_
          case hy19 => (intro w hSw; (try dsimp only at hSw); go_simp; try with_reducible rfl)
          try simp only [Act.put, List.setIfInBounds_toArray, List.set_cons_zero, List.set_cons_succ]
          refine wpAnyH_take (i := 10) (oi := { dst := some 71, op := Go.Op.move (Go.Operand.tmp 0), type := 28, pos := "zsortanyfunc.go:398", after := #[], guard := none }) (v := ?v20) rfl (by kernel_rfl) (by kernel_rfl) (by kernel_rfl) (fun _ _ _ h => h) (Or.inl ⟨by rfl, ?hy20⟩) (by assumption) ?_
          case hy20 => (intro w hSw; (try dsimp only at hSw); go_simp; try with_reducible rfl)
          try simp only [Act.put, List.setIfInBounds_toArray, List.set_cons_zero, List.set_cons_succ]
          refine wpAnyH_take (i := 11) (oi := { dst := some 72, op := Go.Op.move (Go.Operand.tmp 13), type := 3, pos := "zsortanyfunc.go:398", after := #[], guard := none }) (v := ?v21) rfl (by kernel_rfl) (by kernel_rfl) (by kernel_rfl) (fun _ _ _ h => h) (Or.inl ⟨by rfl, ?hy21⟩) (by assumption) ?_
          case hy21 => (intro w hSw; (try dsimp only at hSw); go_simp; try with_reducible rfl)
          try simp only [Act.put, List.setIfInBounds_toArray, List.set_cons_zero, List.set_cons_succ]
          refine wpAnyH_take (i := 12) (oi := { dst := some 73, op := Go.Op.indexAddr 28 (Go.Operand.tmp 71) (Go.Operand.tmp 72), type := 0, pos := "zsortanyfunc.go:398", after := #[{ on := 10, ground := Go.Ground.data }, { on := 11, ground := Go.Ground.data }], guard := none }) (v := ?v22) rfl (by kernel_rfl) (by kernel_rfl) (by kernel_rfl) (fun _ _ _ h => h) (Or.inl ⟨by rfl, ?hy22⟩) (by assumption) ?_
          case hy22 => (intro w hSw; (try dsimp only at hSw); go_simp; try with_reducible rfl)
          try simp only [Act.put, List.setIfInBounds_toArray, List.set_cons_zero, List.set_cons_succ]
          refine wpAnyH_ready (rs := [9, 13]) (by kernel_rfl) (by simp) ?_
          refine (AllReadyH.cons (i := 9) (o := { dst := some 70, op := Go.Op.load 37 (Go.Operand.tmp 69), type := 37, pos := "zsortanyfunc.go:398", after := #[{ on := 8, ground := Go.Ground.data }], guard := none }) rfl (fun K' hK' => ?_) (AllReadyH.cons (i := 13) (o := { dst := some 74, op := Go.Op.load 37 (Go.Operand.tmp 73), type := 37, pos := "zsortanyfunc.go:398", after := #[{ on := 12, ground := Go.Ground.data }], guard := none }) rfl (fun K' hK' => ?_) AllReadyH.nil))
          · refine step_load_en rfl _ rfl rfl f0 f1 f2 ?_
            refine hK'.out _ _ trivial (fun hHeld => ?_)
            clear hK' K'
            try simp only [Act.put, List.setIfInBounds_toArray, List.set_cons_zero, List.set_cons_succ]
            refine wpAnyH_ready (rs := [13]) (by kernel_rfl) (by simp) ?_
            refine (AllReadyH.cons (i := 13) (o := { dst := some 74, op := Go.Op.load 37 (Go.Operand.tmp 73), type := 37, pos := "zsortanyfunc.go:398", after := #[{ on := 12, ground := Go.Ground.data }], guard := none }) rfl (fun K' hK' => ?_) AllReadyH.nil)
            refine step_load_en rfl _ rfl rfl e0 e1 e2 ?_
            refine hK'.out _ _ trivial (fun hHeld => ?_)
            clear hK' K'
            try simp only [Act.put, List.setIfInBounds_toArray, List.set_cons_zero, List.set_cons_succ]
            refine wpAnyH_take (i := 14) (oi := { dst := some 75, op := Go.Op.indexAddr 28 (Go.Operand.tmp 61) (Go.Operand.tmp 62), type := 0, pos := "zsortanyfunc.go:398", after := #[{ on := 0, ground := Go.Ground.data }, { on := 1, ground := Go.Ground.data }, { on := 0, ground := Go.Ground.phase }, { on := 1, ground := Go.Ground.phase }, { on := 2, ground := Go.Ground.textOnly Go.Departure.lateStores }, { on := 3, ground := Go.Ground.textOnly Go.Departure.lateStores }, { on := 4, ground := Go.Ground.textOnly Go.Departure.lateStores }, { on := 5, ground := Go.Ground.phase }, { on := 6, ground := Go.Ground.phase }, { on := 7, ground := Go.Ground.phase }, { on := 8, ground := Go.Ground.phase }, { on := 9, ground := Go.Ground.phase }, { on := 10, ground := Go.Ground.textOnly Go.Departure.lateStores }, { on := 11, ground := Go.Ground.textOnly Go.Departure.lateStores }, { on := 12, ground := Go.Ground.textOnly Go.Departure.lateStoresUnsure }, { on := 13, ground := Go.Ground.phase }], guard := none }) (v := ?v23) rfl (by kernel_rfl) (by kernel_rfl) (by kernel_rfl) (fun _ _ _ h => h) (Or.inl ⟨by rfl, ?hy23⟩) (by assumption) ?_
            case hy23 => (intro w hSw; (try dsimp only at hSw); go_simp; try with_reducible rfl)
            try simp only [Act.put, List.setIfInBounds_toArray, List.set_cons_zero, List.set_cons_succ]
            refine wpAnyH_ready (rs := [15]) (by kernel_rfl) (by simp) ?_
            refine (AllReadyH.cons (i := 15) (o := { dst := none, op := Go.Op.store 37 (Go.Operand.tmp 75) (Go.Operand.tmp 70), type := 0, pos := "zsortanyfunc.go:398", after := #[{ on := 14, ground := Go.Ground.data }, { on := 9, ground := Go.Ground.data }, { on := 0, ground := Go.Ground.phase }, { on := 1, ground := Go.Ground.phase }, { on := 2, ground := Go.Ground.textOnly Go.Departure.lateStores }, { on := 3, ground := Go.Ground.textOnly Go.Departure.lateStores }, { on := 4, ground := Go.Ground.textOnly Go.Departure.lateStores }, { on := 5, ground := Go.Ground.phase }, { on := 6, ground := Go.Ground.phase }, { on := 7, ground := Go.Ground.phase }, { on := 8, ground := Go.Ground.phase }, { on := 9, ground := Go.Ground.phase }, { on := 10, ground := Go.Ground.textOnly Go.Departure.lateStores }, { on := 11, ground := Go.Ground.textOnly Go.Departure.lateStores }, { on := 12, ground := Go.Ground.textOnly Go.Departure.lateStoresUnsure }, { on := 13, ground := Go.Ground.phase }], guard := none }) rfl (fun K' hK' => ?_) AllReadyH.nil)
            refine step_store_en rfl _ _ rfl rfl rfl hAd hpn hu2 hys hyc ?_
            intro wA hA1 hgA
            refine hK'.out _ _ trivial (fun hHeld => ?_)
            clear hK' K'
            try simp only [Act.put, List.setIfInBounds_toArray, List.set_cons_zero, List.set_cons_succ]
            refine wpAnyH_take (i := 16) (oi := { dst := some 76, op := Go.Op.indexAddr 28 (Go.Operand.tmp 63) (Go.Operand.tmp 65), type := 0, pos := "zsortanyfunc.go:398", after := #[{ on := 2, ground := Go.Ground.data }, { on := 4, ground := Go.Ground.data }, { on := 0, ground := Go.Ground.phase }, { on := 1, ground := Go.Ground.phase }, { on := 2, ground := Go.Ground.phase }, { on := 3, ground := Go.Ground.phase }, { on := 4, ground := Go.Ground.phase }, { on := 5, ground := Go.Ground.phase }, { on := 6, ground := Go.Ground.phase }, { on := 7, ground := Go.Ground.phase }, { on := 8, ground := Go.Ground.phase }, { on := 9, ground := Go.Ground.phase }, { on := 10, ground := Go.Ground.phase }, { on := 11, ground := Go.Ground.phase }, { on := 12, ground := Go.Ground.phase }, { on := 13, ground := Go.Ground.phase }, { on := 14, ground := Go.Ground.phase }, { on := 15, ground := Go.Ground.phase }], guard := none }) (v := ?v24) rfl (by kernel_rfl) (by kernel_rfl) (by kernel_rfl) (fun _ _ _ h => h) (Or.inl ⟨by rfl, ?hy24⟩) (by assumption) ?_
            case hy24 => (intro w hSw; (try dsimp only at hSw); go_simp; try with_reducible rfl)
            try simp only [Act.put, List.setIfInBounds_toArray, List.set_cons_zero, List.set_cons_succ]
            refine wpAnyH_ready (rs := [17]) (by kernel_rfl) (by simp) ?_
            refine (AllReadyH.cons (i := 17) (o := { dst := none, op := Go.Op.store 37 (Go.Operand.tmp 76) (Go.Operand.tmp 74), type := 0, pos := "zsortanyfunc.go:398", after := #[{ on := 16, ground := Go.Ground.data }, { on := 13, ground := Go.Ground.data }, { on := 15, ground := Go.Ground.chain }, { on := 0, ground := Go.Ground.phase }, { on := 1, ground := Go.Ground.phase }, { on := 2, ground := Go.Ground.phase }, { on := 3, ground := Go.Ground.phase }, { on := 4, ground := Go.Ground.phase }, { on := 5, ground := Go.Ground.phase }, { on := 6, ground := Go.Ground.phase }, { on := 7, ground := Go.Ground.phase }, { on := 8, ground := Go.Ground.phase }, { on := 9, ground := Go.Ground.phase }, { on := 10, ground := Go.Ground.phase }, { on := 11, ground := Go.Ground.phase }, { on := 12, ground := Go.Ground.phase }, { on := 13, ground := Go.Ground.phase }, { on := 14, ground := Go.Ground.phase }, { on := 15, ground := Go.Ground.phase }], guard := none }) rfl (fun K' hK' => ?_) AllReadyH.nil)
            refine step_store_en rfl _ _ rfl rfl rfl hA1 hqn (sl_grown hu1 hgA) hxs hxc ?_
            intro wB hA2 hgB
            refine hK'.out _ _ trivial (fun hHeld => ?_)
            clear hK' K'
            try simp only [Act.put, List.setIfInBounds_toArray, List.set_cons_zero, List.set_cons_succ]
            refine wpAnyH_done (by kernel_rfl) ?_ _
            rw [hres.out] at hA2
            go_wp2_with fail
            exact ⟨⟨t + 1, hlt2, by have h1 := Hq1.out; have h2 := Hp1.out; rw [show a + (t + 1) = q1 by omega], grown_trans hgd (grown_trans hgA hgB), hA2⟩, by have h1 := Hq1.out; have h2 := Hp1.out; simp [intOf, hqw]; omega⟩
          · refine step_load_en rfl _ rfl rfl e0 e1 e2 ?_
            refine hK'.out _ _ trivial (fun hHeld => ?_)
            clear hK' K'
            try simp only [Act.put, List.setIfInBounds_toArray, List.set_cons_zero, List.set_cons_succ]
            refine wpAnyH_ready (rs := [9]) (by kernel_rfl) (by simp) ?_
            refine (AllReadyH.cons (i := 9) (o := { dst := some 70, op := Go.Op.load 37 (Go.Operand.tmp 69), type := 37, pos := "zsortanyfunc.go:398", after := #[{ on := 8, ground := Go.Ground.data }], guard := none }) rfl (fun K' hK' => ?_) AllReadyH.nil)
            refine step_load_en rfl _ rfl rfl f0 f1 f2 ?_
            refine hK'.out _ _ trivial (fun hHeld => ?_)
            clear hK' K'
            try simp only [Act.put, List.setIfInBounds_toArray, List.set_cons_zero, List.set_cons_succ]
            refine wpAnyH_take (i := 14) (oi := { dst := some 75, op := Go.Op.indexAddr 28 (Go.Operand.tmp 61) (Go.Operand.tmp 62), type := 0, pos := "zsortanyfunc.go:398", after := #[{ on := 0, ground := Go.Ground.data }, { on := 1, ground := Go.Ground.data }, { on := 0, ground := Go.Ground.phase }, { on := 1, ground := Go.Ground.phase }, { on := 2, ground := Go.Ground.textOnly Go.Departure.lateStores }, { on := 3, ground := Go.Ground.textOnly Go.Departure.lateStores }, { on := 4, ground := Go.Ground.textOnly Go.Departure.lateStores }, { on := 5, ground := Go.Ground.phase }, { on := 6, ground := Go.Ground.phase }, { on := 7, ground := Go.Ground.phase }, { on := 8, ground := Go.Ground.phase }, { on := 9, ground := Go.Ground.phase }, { on := 10, ground := Go.Ground.textOnly Go.Departure.lateStores }, { on := 11, ground := Go.Ground.textOnly Go.Departure.lateStores }, { on := 12, ground := Go.Ground.textOnly Go.Departure.lateStoresUnsure }, { on := 13, ground := Go.Ground.phase }], guard := none }) (v := ?v25) rfl (by kernel_rfl) (by kernel_rfl) (by kernel_rfl) (fun _ _ _ h => h) (Or.inl ⟨by rfl, ?hy25⟩) (by assumption) ?_
            case hy25 => (intro w hSw; (try dsimp only at hSw); go_simp; try with_reducible rfl)
            try simp only [Act.put, List.setIfInBounds_toArray, List.set_cons_zero, List.set_cons_succ]
            refine wpAnyH_ready (rs := [15]) (by kernel_rfl) (by simp) ?_
            refine (AllReadyH.cons (i := 15) (o := { dst := none, op := Go.Op.store 37 (Go.Operand.tmp 75) (Go.Operand.tmp 70), type := 0, pos := "zsortanyfunc.go:398", after := #[{ on := 14, ground := Go.Ground.data }, { on := 9, ground := Go.Ground.data }, { on := 0, ground := Go.Ground.phase }, { on := 1, ground := Go.Ground.phase }, { on := 2, ground := Go.Ground.textOnly Go.Departure.lateStores }, { on := 3, ground := Go.Ground.textOnly Go.Departure.lateStores }, { on := 4, ground := Go.Ground.textOnly Go.Departure.lateStores }, { on := 5, ground := Go.Ground.phase }, { on := 6, ground := Go.Ground.phase }, { on := 7, ground := Go.Ground.phase }, { on := 8, ground := Go.Ground.phase }, { on := 9, ground := Go.Ground.phase }, { on := 10, ground := Go.Ground.textOnly Go.Departure.lateStores }, { on := 11, ground := Go.Ground.textOnly Go.Departure.lateStores }, { on := 12, ground := Go.Ground.textOnly Go.Departure.lateStoresUnsure }, { on := 13, ground := Go.Ground.phase }], guard := none }) rfl (fun K' hK' => ?_) AllReadyH.nil)
            refine step_store_en rfl _ _ rfl rfl rfl hAd hpn hu2 hys hyc ?_
            intro wA hA1 hgA
            refine hK'.out _ _ trivial (fun hHeld => ?_)
            clear hK' K'
            try simp only [Act.put, List.setIfInBounds_toArray, List.set_cons_zero, List.set_cons_succ]
            refine wpAnyH_take (i := 16) (oi := { dst := some 76, op := Go.Op.indexAddr 28 (Go.Operand.tmp 63) (Go.Operand.tmp 65), type := 0, pos := "zsortanyfunc.go:398", after := #[{ on := 2, ground := Go.Ground.data }, { on := 4, ground := Go.Ground.data }, { on := 0, ground := Go.Ground.phase }, { on := 1, ground := Go.Ground.phase }, { on := 2, ground := Go.Ground.phase }, { on := 3, ground := Go.Ground.phase }, { on := 4, ground := Go.Ground.phase }, { on := 5, ground := Go.Ground.phase }, { on := 6, ground := Go.Ground.phase }, { on := 7, ground := Go.Ground.phase }, { on := 8, ground := Go.Ground.phase }, { on := 9, ground := Go.Ground.phase }, { on := 10, ground := Go.Ground.phase }, { on := 11, ground := Go.Ground.phase }, { on := 12, ground := Go.Ground.phase }, { on := 13, ground := Go.Ground.phase }, { on := 14, ground := Go.Ground.phase }, { on := 15, ground := Go.Ground.phase }], guard := none }) (v := ?v26) rfl (by kernel_rfl) (by kernel_rfl) (by kernel_rfl) (fun _ _ _ h => h) (Or.inl ⟨by rfl, ?hy26⟩) (by assumption) ?_
            case hy26 => (intro w hSw; (try dsimp only at hSw); go_simp; try with_reducible rfl)
            try simp only [Act.put, List.setIfInBounds_toArray, List.set_cons_zero, List.set_cons_succ]
            refine wpAnyH_ready (rs := [17]) (by kernel_rfl) (by simp) ?_
            refine (AllReadyH.cons (i := 17) (o := { dst := none, op := Go.Op.store 37 (Go.Operand.tmp 76) (Go.Operand.tmp 74), type := 0, pos := "zsortanyfunc.go:398", after := #[{ on := 16, ground := Go.Ground.data }, { on := 13, ground := Go.Ground.data }, { on := 15, ground := Go.Ground.chain }, { on := 0, ground := Go.Ground.phase }, { on := 1, ground := Go.Ground.phase }, { on := 2, ground := Go.Ground.phase }, { on := 3, ground := Go.Ground.phase }, { on := 4, ground := Go.Ground.phase }, { on := 5, ground := Go.Ground.phase }, { on := 6, ground := Go.Ground.phase }, { on := 7, ground := Go.Ground.phase }, { on := 8, ground := Go.Ground.phase }, { on := 9, ground := Go.Ground.phase }, { on := 10, ground := Go.Ground.phase }, { on := 11, ground := Go.Ground.phase }, { on := 12, ground := Go.Ground.phase }, { on := 13, ground := Go.Ground.phase }, { on := 14, ground := Go.Ground.phase }, { on := 15, ground := Go.Ground.phase }], guard := none }) rfl (fun K' hK' => ?_) AllReadyH.nil)
            refine step_store_en rfl _ _ rfl rfl rfl hA1 hqn (sl_grown hu1 hgA) hxs hxc ?_
            intro wB hA2 hgB
            refine hK'.out _ _ trivial (fun hHeld => ?_)
            clear hK' K'
            try simp only [Act.put, List.setIfInBounds_toArray, List.set_cons_zero, List.set_cons_succ]
            refine wpAnyH_done (by kernel_rfl) ?_ _
            rw [hres.out] at hA2
            go_wp2_with fail
            exact ⟨⟨t + 1, hlt2, by have h1 := Hq1.out; have h2 := Hp1.out; rw [show a + (t + 1) = q1 by omega], grown_trans hgd (grown_trans hgA hgB), hA2⟩, by have h1 := Hq1.out; have h2 := Hp1.out; simp [intOf, hqw]; omega⟩
        · have hte' : t = e := by omega
          subst hte'
          have hpt : ¬ ((a + t : Nat) : Int) < (t1 : Int) := by omega
          have HAA := Lib.hid hAt
          clear hAt hA
          go_wp2_with fail
          go_end0
          exact ⟨rfl, _, hfin.out.2, hfin.out.1, HAA.out, hgr⟩
end Go.Proofs.YtonadloonidmjaaDoor
namespace Go.Proofs.YtonadloonidmjaaDoor
open Go.RowKit
open Pl

set_option linter.unusedSimpArgs false in
set_option maxRecDepth 100000 in
set_option maxHeartbeats 16000000 in
theorem mergeR_any {g base n cap a m b : Nat} {w : World} {P A S : List En} {y : En} (h : Acc tEn 37 w base (.slice (some ⟨g, 0, none⟩) n cap) (P ++ (A ++ y :: S))) (ha : a = P.length) (hm : m = P.length + A.length) (hb : b = m + 1) (hA2 : 2 ≤ A.length) (hA : LS A) (hT : TL A [y]) (hn : n ≤ 1000000) :
    Calls Tryd.prog 71 #[.slice (some ⟨g, 0, none⟩) n cap, .int .i64 a, .int .i64 m, .int .i64 b, .func (.func 32) #[] #[]] w (MrgR g base n cap w P (A ++ [y]) S) := by
  obtain ⟨la, hla⟩ : ∃ la, la = A.length := ⟨_, rfl⟩
  have hlen : n = P.length + A.length + 1 + S.length := by rw [acc_len h]; simp; omega
  have hma : (m : Int) - (a : Int) = (la : Int) := by omega
  have hbm : (b : Int) - (m : Int) = 1 := by omega
  have hlw : IntKind.i64.wrap (la : Int) = (la : Int) := by simp [IntKind.wrap, IntKind.bits, IntKind.signed]; omega
  have hl1 : ((la : Int) == 1) = false := by rw [beq_eq_false_iff_ne]; omega
  have hmn : m < n := by omega
  have ham : a + la = m := by omega
  have Ha := Lib.hid ha
  have Hm := Lib.hid hm
  have Hla := Lib.hid hla
  have h : Acc tEn 37 w base (.slice (some ⟨g, 0, none⟩) n cap) (P ++ ((A ++ [y]) ++ S)) := by simpa using h
  have Hh := Lib.hid h
  clear ha hm hb hlen h hla hA2
  go_enter Tryd.func71, Tryd.ntmps71
  go_wp2_with fail
  go_loopw [14, 15] (fun i j wr => ∃ p q : Nat, a ≤ p ∧ p ≤ q ∧ q ≤ m ∧ i = .int .i64 p ∧ j = .int .i64 q ∧ Bw w wr ∧ Hid (a < p → y.2.2 ≤ cA A (p - 1 - a)) ∧ Hid (q < m → cA A (q - a) < y.2.2)) (fun i j _ => (intOf j).toNat - (intOf i).toNat)
  case atStart => exact ⟨a, m, Nat.le_refl _, by omega, Nat.le_refl _, rfl, rfl, Below.refl _ _, fun h => absurd h (by omega), fun h => absurd h (by omega)⟩
  case round =>
    obtain ⟨p, q, hap, hpq, hqm, rfl, rfl, hd, hlo, hhi⟩ := hrel
    by_cases hlt : p < q
    · have hmid := mid_eq (p := p) (q := q) (by omega) (by omega)
      obtain ⟨c, hme⟩ : ∃ c, c = (p + q) / 2 := ⟨_, rfl⟩
      have hm1 : p ≤ c := by omega
      have hm2 : c < q := by omega
      rw [← hme] at hmid
      have hmid2 : ((p : Int) + (q : Int)) / 2 = (c : Int) := by omega
      clear hme
      have hAc := Hh.out.after hd
      have hcn : c < n := by omega
      obtain ⟨y', u1, hy, hys, hyc, hu1, e0, e1, e2⟩ := hAc.en' (k := m) hmn
      obtain ⟨x, u2, hx, hxs, hxc, hu2, f0, f1, f2⟩ := hAc.en' (k := c) hcn
      obtain ⟨A1, n1, k1, rfl, _, _, _⟩ := hu1.form'
      obtain ⟨A2, n2, k2, rfl, _, _, _⟩ := hu2.form'
      have hyy : y' = y := by
        have h1 := at_seg P (A ++ [y]) S (i := A.length) (by rw [← Hla.out, ← ham, Ha.out]) (by simp) hy.out
        rw [List.getElem?_append_right (Nat.le_refl _), Nat.sub_self] at h1
        injection h1 with h1
        exact h1.symm
      subst hyy
      have hxA : Hid (cA A (c - a) = x.2.2) := by
        have hca : c - a < A.length := by have := Hla.out; omega
        have h1 := at_seg P (A ++ [y']) S (i := c - a) (by rw [← Ha.out]; omega) (by simp; omega) hx.out
        rw [List.getElem?_append_left hca] at h1
        exact cA_of h1
      have HO2 := likes_at (u1 := .slice A1 n1 k1) (s1 := .string y'.2.1) (c1 := y'.2.2) (u2 := .slice A2 n2 k2) (s2 := .string x.2.1) (c2 := x.2.2) wr
      have HZ : Hid (cmpI x.2.2 y'.2.2 < 0 ↔ cA A (c - a) < y'.2.2) := by show _ ↔ _; rw [hxA.out]; exact cmpI_neg
      have K0 : ∀ W, Bw wr W → (W.cell? ⟨g, m * 3, none⟩ = some (.slice A1 n1 k1) ∧ W.cell? ⟨g, m * 3 + 1, none⟩ = some (.string y'.2.1) ∧ W.cell? ⟨g, m * 3 + 2, none⟩ = some (.int .i64 y'.2.2) ∧ W.cell? ⟨g, c * 3, none⟩ = some (.slice A2 n2 k2) ∧ W.cell? ⟨g, c * 3 + 1, none⟩ = some (.string x.2.1) ∧ W.cell? ⟨g, c * 3 + 2, none⟩ = some (.int .i64 x.2.2)) := fun W kk =>
        ⟨bw_cell kk e0, bw_cell kk e1, bw_cell kk e2, bw_cell kk f0, bw_cell kk f1, bw_cell kk f2⟩
      generalize cmpI x.2.2 y'.2.2 = z at *
      clear hAc hu1 hu2 hy hx e0 e1 e2 f0 f1 f2 hxA hyc hys hxc hxs hA hT
      by_cases hz : z < 0
      · have hzd := decide_eq_true hz
        go_wp2_with fail
        refine wp_region_held_drew (S := fun u => u.cell? ⟨g, m * 3, none⟩ = some (.slice A1 n1 k1) ∧ u.cell? ⟨g, m * 3 + 1, none⟩ = some (.string y'.2.1) ∧ u.cell? ⟨g, m * 3 + 2, none⟩ = some (.int .i64 y'.2.2) ∧ u.cell? ⟨g, c * 3, none⟩ = some (.slice A2 n2 k2) ∧ u.cell? ⟨g, c * 3 + 1, none⟩ = some (.string x.2.1) ∧ u.cell? ⟨g, c * 3 + 2, none⟩ = some (.int .i64 x.2.2)) (by kernel_rfl) ?_ (fun hHeld => ?_)
        · exact K0 _ (Bw.drew (Below.refl _ _))
        refine wpAnyH_take (i := 0) (oi := { dst := some 92, op := Go.Op.move (Go.Operand.tmp 4), type := 52, pos := "zsortanyfunc.go:414", after := #[], guard := none }) (v := ?v1) rfl (by kernel_rfl) (by kernel_rfl) (by kernel_rfl) (fun _ _ _ h => h) (Or.inl ⟨by rfl, ?hy1⟩) (by assumption) ?_
        case hy1 => (intro w hSw; (try dsimp only at hSw); go_simp; try with_reducible rfl)
        try simp only [Act.put, List.setIfInBounds_toArray, List.set_cons_zero, List.set_cons_succ]
        refine wpAnyH_take (i := 1) (oi := { dst := some 93, op := Go.Op.move (Go.Operand.tmp 0), type := 28, pos := "zsortanyfunc.go:414", after := #[], guard := none }) (v := ?v2) rfl (by kernel_rfl) (by kernel_rfl) (by kernel_rfl) (fun _ _ _ h => h) (Or.inl ⟨by rfl, ?hy2⟩) (by assumption) ?_
        case hy2 => (intro w hSw; (try dsimp only at hSw); go_simp; try with_reducible rfl)
        try simp only [Act.put, List.setIfInBounds_toArray, List.set_cons_zero, List.set_cons_succ]
        refine wpAnyH_take (i := 2) (oi := { dst := some 94, op := Go.Op.move (Go.Operand.tmp 2), type := 3, pos := "zsortanyfunc.go:414", after := #[], guard := none }) (v := ?v3) rfl (by kernel_rfl) (by kernel_rfl) (by kernel_rfl) (fun _ _ _ h => h) (Or.inl ⟨by rfl, ?hy3⟩) (by assumption) ?_
        case hy3 => (intro w hSw; (try dsimp only at hSw); go_simp; try with_reducible rfl)
        try simp only [Act.put, List.setIfInBounds_toArray, List.set_cons_zero, List.set_cons_succ]
        refine wpAnyH_take (i := 3) (oi := { dst := some 95, op := Go.Op.indexAddr 28 (Go.Operand.tmp 93) (Go.Operand.tmp 94), type := 0, pos := "zsortanyfunc.go:414", after := #[{ on := 1, ground := Go.Ground.data }, { on := 2, ground := Go.Ground.data }], guard := none }) (v := ?v4) rfl (by kernel_rfl) (by kernel_rfl) (by kernel_rfl) (fun _ _ _ h => h) (Or.inl ⟨by rfl, ?hy4⟩) (by assumption) ?_
        case hy4 => (intro w hSw; (try dsimp only at hSw); go_simp; try with_reducible rfl)
        try simp only [Act.put, List.setIfInBounds_toArray, List.set_cons_zero, List.set_cons_succ]
        refine wpAnyH_take (i := 4) (oi := { dst := some 96, op := Go.Op.load 37 (Go.Operand.tmp 95), type := 37, pos := "zsortanyfunc.go:414", after := #[{ on := 3, ground := Go.Ground.data }], guard := none }) (v := ?v5) rfl (by kernel_rfl) (by kernel_rfl) (by kernel_rfl) (fun _ _ _ h => h) (Or.inl ⟨by rfl, ?hy5⟩) (by assumption) ?_
        case hy5 => (intro w hSw; (try dsimp only at hSw); go_simp; try with_reducible rfl)
        try simp only [Act.put, List.setIfInBounds_toArray, List.set_cons_zero, List.set_cons_succ]
        refine wpAnyH_take (i := 5) (oi := { dst := some 97, op := Go.Op.move (Go.Operand.tmp 0), type := 28, pos := "zsortanyfunc.go:414", after := #[], guard := none }) (v := ?v6) rfl (by kernel_rfl) (by kernel_rfl) (by kernel_rfl) (fun _ _ _ h => h) (Or.inl ⟨by rfl, ?hy6⟩) (by assumption) ?_
        case hy6 => (intro w hSw; (try dsimp only at hSw); go_simp; try with_reducible rfl)
        try simp only [Act.put, List.setIfInBounds_toArray, List.set_cons_zero, List.set_cons_succ]
        refine wpAnyH_take (i := 6) (oi := { dst := some 98, op := Go.Op.move (Go.Operand.tmp 16), type := 3, pos := "zsortanyfunc.go:414", after := #[], guard := none }) (v := ?v7) rfl (by kernel_rfl) (by kernel_rfl) (by kernel_rfl) (fun _ _ _ h => h) (Or.inl ⟨by rfl, ?hy7⟩) (by assumption) ?_
        case hy7 => (intro w hSw; (try dsimp only at hSw); go_simp; try with_reducible rfl)
        try simp only [Act.put, List.setIfInBounds_toArray, List.set_cons_zero, List.set_cons_succ]
        refine wpAnyH_take (i := 7) (oi := { dst := some 99, op := Go.Op.indexAddr 28 (Go.Operand.tmp 97) (Go.Operand.tmp 98), type := 0, pos := "zsortanyfunc.go:414", after := #[{ on := 5, ground := Go.Ground.data }, { on := 6, ground := Go.Ground.data }], guard := none }) (v := ?v8) rfl (by kernel_rfl) (by kernel_rfl) (by kernel_rfl) (fun _ _ _ h => h) (Or.inl ⟨by rfl, ?hy8⟩) (by assumption) ?_
        case hy8 => (intro w hSw; (try dsimp only at hSw); go_simp; try with_reducible rfl)
        try simp only [Act.put, List.setIfInBounds_toArray, List.set_cons_zero, List.set_cons_succ]
        refine wpAnyH_take (i := 8) (oi := { dst := some 100, op := Go.Op.load 37 (Go.Operand.tmp 99), type := 37, pos := "zsortanyfunc.go:414", after := #[{ on := 7, ground := Go.Ground.data }], guard := none }) (v := ?v9) rfl (by kernel_rfl) (by kernel_rfl) (by kernel_rfl) (fun _ _ _ h => h) (Or.inl ⟨by rfl, ?hy9⟩) (by assumption) ?_
        case hy9 => (intro w hSw; (try dsimp only at hSw); go_simp; try with_reducible rfl)
        try simp only [Act.put, List.setIfInBounds_toArray, List.set_cons_zero, List.set_cons_succ]
        refine wpAnyH_ready (rs := [9]) (by kernel_rfl) (by simp) ?_
        refine (AllReadyH.cons (i := 9) (o := { dst := some 101, op := Go.Op.call { callee := Go.Callee.value (Go.Operand.tmp 92), args := #[Go.Operand.tmp 96, Go.Operand.tmp 100], argTypes := #[37, 37] }, type := 3, pos := "zsortanyfunc.go:414", after := #[{ on := 0, ground := Go.Ground.data }, { on := 4, ground := Go.Ground.data }, { on := 8, ground := Go.Ground.data }], guard := none }) rfl (fun K' hK' => ?_) AllReadyH.nil)
        go_simp
        with_reducible refine (HO2.out _ (by (repeat' first | with_reducible exact Below.refl _ _ | with_reducible assumption | with_reducible refine Bw.drew ?_ | with_reducible refine Bw.drewN ?_ _ | with_reducible refine bw_al ?_ _ | with_reducible refine Bw.then ?_ (by with_reducible assumption)))).mono ?_
        rintro e wA ⟨rfl, hbA⟩
        try dsimp only
        refine hK'.out _ _ ?_ (fun hHeld => ?_)
        · exact K0 _ (by (repeat' first | with_reducible exact Below.refl _ _ | with_reducible assumption | with_reducible refine Bw.drew ?_ | with_reducible refine Bw.drewN ?_ _ | with_reducible refine bw_al ?_ _ | with_reducible refine Bw.then ?_ (by with_reducible assumption)))
        clear hK' K'
        try simp only [Act.put, List.setIfInBounds_toArray, List.set_cons_zero, List.set_cons_succ]
        refine wpAnyH_take (i := 10) (oi := { dst := some 102, op := Go.Op.binOp Go.BinOp.lss 3 (Go.Operand.tmp 101) (Go.Operand.const (Go.Value.int Go.IntKind.i64 0)) 3, type := 4, pos := "zsortanyfunc.go:414", after := #[{ on := 9, ground := Go.Ground.data }], guard := none }) (v := Value.bool true) rfl (by kernel_rfl) (by kernel_rfl) (by kernel_rfl) (fun _ _ _ h => h) (Or.inl ⟨by rfl, ?hy10⟩) (by assumption) ?_
        case hy10 => (intro w hSw; (try dsimp only at hSw); go_simp)
        try simp only [Act.put, List.setIfInBounds_toArray, List.set_cons_zero, List.set_cons_succ]
        refine wpAnyH_take (i := 11) (oi := { dst := some 103, op := Go.Op.unOp Go.UnOp.not 4 (Go.Operand.tmp 102), type := 4, pos := "zsortanyfunc.go:414", after := #[{ on := 10, ground := Go.Ground.data }], guard := none }) (v := Value.bool false) rfl (by kernel_rfl) (by kernel_rfl) (by kernel_rfl) (fun _ _ _ h => h) (Or.inl ⟨by rfl, ?hy11⟩) (by assumption) ?_
        case hy11 => (intro w hSw; (try dsimp only at hSw); go_simp)
        try simp only [Act.put, List.setIfInBounds_toArray, List.set_cons_zero, List.set_cons_succ]
        refine wpAnyH_done (by kernel_rfl) ?_ _
        go_wp2_with fail
        exact ⟨⟨p, c, hap, hm1, by omega, rfl, rfl, hd.then (by (repeat' first | with_reducible exact Below.refl _ _ | with_reducible assumption | with_reducible refine Bw.drew ?_ | with_reducible refine Bw.drewN ?_ _ | with_reducible refine bw_al ?_ _ | with_reducible refine Bw.then ?_ (by with_reducible assumption))), hlo, fun _ => HZ.out.1 hz⟩, by simp [intOf]; omega⟩
      · have hzd := decide_eq_false hz
        go_wp2_with fail
        refine wp_region_held_drew (S := fun u => u.cell? ⟨g, m * 3, none⟩ = some (.slice A1 n1 k1) ∧ u.cell? ⟨g, m * 3 + 1, none⟩ = some (.string y'.2.1) ∧ u.cell? ⟨g, m * 3 + 2, none⟩ = some (.int .i64 y'.2.2) ∧ u.cell? ⟨g, c * 3, none⟩ = some (.slice A2 n2 k2) ∧ u.cell? ⟨g, c * 3 + 1, none⟩ = some (.string x.2.1) ∧ u.cell? ⟨g, c * 3 + 2, none⟩ = some (.int .i64 x.2.2)) (by kernel_rfl) ?_ (fun hHeld => ?_)
        · exact K0 _ (Bw.drew (Below.refl _ _))
        refine wpAnyH_take (i := 0) (oi := { dst := some 92, op := Go.Op.move (Go.Operand.tmp 4), type := 52, pos := "zsortanyfunc.go:414", after := #[], guard := none }) (v := ?v12) rfl (by kernel_rfl) (by kernel_rfl) (by kernel_rfl) (fun _ _ _ h => h) (Or.inl ⟨by rfl, ?hy12⟩) (by assumption) ?_
        case hy12 => (intro w hSw; (try dsimp only at hSw); go_simp; try with_reducible rfl)
        try simp only [Act.put, List.setIfInBounds_toArray, List.set_cons_zero, List.set_cons_succ]
        refine wpAnyH_take (i := 1) (oi := { dst := some 93, op := Go.Op.move (Go.Operand.tmp 0), type := 28, pos := "zsortanyfunc.go:414", after := #[], guard := none }) (v := ?v13) rfl (by kernel_rfl) (by kernel_rfl) (by kernel_rfl) (fun _ _ _ h => h) (Or.inl ⟨by rfl, ?hy13⟩) (by assumption) ?_
        case hy13 => (intro w hSw; (try dsimp only at hSw); go_simp; try with_reducible rfl)
        try simp only [Act.put, List.setIfInBounds_toArray, List.set_cons_zero, List.set_cons_succ]
        refine wpAnyH_take (i := 2) (oi := { dst := some 94, op := Go.Op.move (Go.Operand.tmp 2), type := 3, pos := "zsortanyfunc.go:414", after := #[], guard := none }) (v := ?v14) rfl (by kernel_rfl) (by kernel_rfl) (by kernel_rfl) (fun _ _ _ h => h) (Or.inl ⟨by rfl, ?hy14⟩) (by assumption) ?_
        case hy14 => (intro w hSw; (try dsimp only at hSw); go_simp; try with_reducible rfl)
        try simp only [Act.put, List.setIfInBounds_toArray, List.set_cons_zero, List.set_cons_succ]
        refine wpAnyH_take (i := 3) (oi := { dst := some 95, op := Go.Op.indexAddr 28 (Go.Operand.tmp 93) (Go.Operand.tmp 94), type := 0, pos := "zsortanyfunc.go:414", after := #[{ on := 1, ground := Go.Ground.data }, { on := 2, ground := Go.Ground.data }], guard := none }) (v := ?v15) rfl (by kernel_rfl) (by kernel_rfl) (by kernel_rfl) (fun _ _ _ h => h) (Or.inl ⟨by rfl, ?hy15⟩) (by assumption) ?_
        case hy15 => (intro w hSw; (try dsimp only at hSw); go_simp; try with_reducible rfl)
        try simp only [Act.put, List.setIfInBounds_toArray, List.set_cons_zero, List.set_cons_succ]
        refine wpAnyH_take (i := 4) (oi := { dst := some 96, op := Go.Op.load 37 (Go.Operand.tmp 95), type := 37, pos := "zsortanyfunc.go:414", after := #[{ on := 3, ground := Go.Ground.data }], guard := none }) (v := ?v16) rfl (by kernel_rfl) (by kernel_rfl) (by kernel_rfl) (fun _ _ _ h => h) (Or.inl ⟨by rfl, ?hy16⟩) (by assumption) ?_
        case hy16 => (intro w hSw; (try dsimp only at hSw); go_simp; try with_reducible rfl)
        try simp only [Act.put, List.setIfInBounds_toArray, List.set_cons_zero, List.set_cons_succ]
        refine wpAnyH_take (i := 5) (oi := { dst := some 97, op := Go.Op.move (Go.Operand.tmp 0), type := 28, pos := "zsortanyfunc.go:414", after := #[], guard := none }) (v := ?v17) rfl (by kernel_rfl) (by kernel_rfl) (by kernel_rfl) (fun _ _ _ h => h) (Or.inl ⟨by rfl, ?hy17⟩) (by assumption) ?_
        case hy17 => (intro w hSw; (try dsimp only at hSw); go_simp; try with_reducible rfl)
        try simp only [Act.put, List.setIfInBounds_toArray, List.set_cons_zero, List.set_cons_succ]
        refine wpAnyH_take (i := 6) (oi := { dst := some 98, op := Go.Op.move (Go.Operand.tmp 16), type := 3, pos := "zsortanyfunc.go:414", after := #[], guard := none }) (v := ?v18) rfl (by kernel_rfl) (by kernel_rfl) (by kernel_rfl) (fun _ _ _ h => h) (Or.inl ⟨by rfl, ?hy18⟩) (by assumption) ?_
        case hy18 => (intro w hSw; (try dsimp only at hSw); go_simp; try with_reducible rfl)
        try simp only [Act.put, List.setIfInBounds_toArray, List.set_cons_zero, List.set_cons_succ]
        refine wpAnyH_take (i := 7) (oi := { dst := some 99, op := Go.Op.indexAddr 28 (Go.Operand.tmp 97) (Go.Operand.tmp 98), type := 0, pos := "zsortanyfunc.go:414", after := #[{ on := 5, ground := Go.Ground.data }, { on := 6, ground := Go.Ground.data }], guard := none }) (v := ?v19) rfl (by kernel_rfl) (by kernel_rfl) (by kernel_rfl) (fun _ _ _ h => h) (Or.inl ⟨by rfl, ?hy19⟩) (by assumption) ?_
        case hy19 => (intro w hSw; (try dsimp only at hSw); go_simp; try with_reducible rfl)
        try simp only [Act.put, List.setIfInBounds_toArray, List.set_cons_zero, List.set_cons_succ]
        refine wpAnyH_take (i := 8) (oi := { dst := some 100, op := Go.Op.load 37 (Go.Operand.tmp 99), type := 37, pos := "zsortanyfunc.go:414", after := #[{ on := 7, ground := Go.Ground.data }], guard := none }) (v := ?v20) rfl (by kernel_rfl) (by kernel_rfl) (by kernel_rfl) (fun _ _ _ h => h) (Or.inl ⟨by rfl, ?hy20⟩) (by assumption) ?_
        case hy20 => (intro w hSw; (try dsimp only at hSw); go_simp; try with_reducible rfl)
        try simp only [Act.put, List.setIfInBounds_toArray, List.set_cons_zero, List.set_cons_succ]
        refine wpAnyH_ready (rs := [9]) (by kernel_rfl) (by simp) ?_
        refine (AllReadyH.cons (i := 9) (o := { dst := some 101, op := Go.Op.call { callee := Go.Callee.value (Go.Operand.tmp 92), args := #[Go.Operand.tmp 96, Go.Operand.tmp 100], argTypes := #[37, 37] }, type := 3, pos := "zsortanyfunc.go:414", after := #[{ on := 0, ground := Go.Ground.data }, { on := 4, ground := Go.Ground.data }, { on := 8, ground := Go.Ground.data }], guard := none }) rfl (fun K' hK' => ?_) AllReadyH.nil)
        go_simp
        with_reducible refine (HO2.out _ (by (repeat' first | with_reducible exact Below.refl _ _ | with_reducible assumption | with_reducible refine Bw.drew ?_ | with_reducible refine Bw.drewN ?_ _ | with_reducible refine bw_al ?_ _ | with_reducible refine Bw.then ?_ (by with_reducible assumption)))).mono ?_
        rintro e wA ⟨rfl, hbA⟩
        try dsimp only
        refine hK'.out _ _ ?_ (fun hHeld => ?_)
        · exact K0 _ (by (repeat' first | with_reducible exact Below.refl _ _ | with_reducible assumption | with_reducible refine Bw.drew ?_ | with_reducible refine Bw.drewN ?_ _ | with_reducible refine bw_al ?_ _ | with_reducible refine Bw.then ?_ (by with_reducible assumption)))
        clear hK' K'
        try simp only [Act.put, List.setIfInBounds_toArray, List.set_cons_zero, List.set_cons_succ]
        refine wpAnyH_take (i := 10) (oi := { dst := some 102, op := Go.Op.binOp Go.BinOp.lss 3 (Go.Operand.tmp 101) (Go.Operand.const (Go.Value.int Go.IntKind.i64 0)) 3, type := 4, pos := "zsortanyfunc.go:414", after := #[{ on := 9, ground := Go.Ground.data }], guard := none }) (v := Value.bool false) rfl (by kernel_rfl) (by kernel_rfl) (by kernel_rfl) (fun _ _ _ h => h) (Or.inl ⟨by rfl, ?hy21⟩) (by assumption) ?_
        case hy21 => (intro w hSw; (try dsimp only at hSw); go_simp)
        try simp only [Act.put, List.setIfInBounds_toArray, List.set_cons_zero, List.set_cons_succ]
        refine wpAnyH_take (i := 11) (oi := { dst := some 103, op := Go.Op.unOp Go.UnOp.not 4 (Go.Operand.tmp 102), type := 4, pos := "zsortanyfunc.go:414", after := #[{ on := 10, ground := Go.Ground.data }], guard := none }) (v := Value.bool true) rfl (by kernel_rfl) (by kernel_rfl) (by kernel_rfl) (fun _ _ _ h => h) (Or.inl ⟨by rfl, ?hy22⟩) (by assumption) ?_
        case hy22 => (intro w hSw; (try dsimp only at hSw); go_simp)
        try simp only [Act.put, List.setIfInBounds_toArray, List.set_cons_zero, List.set_cons_succ]
        refine wpAnyH_done (by kernel_rfl) ?_ _
        go_wp2_with fail
        exact ⟨⟨c + 1, q, by omega, by omega, hqm, by go_num, rfl, hd.then (by (repeat' first | with_reducible exact Below.refl _ _ | with_reducible assumption | with_reducible refine Bw.drew ?_ | with_reducible refine Bw.drewN ?_ _ | with_reducible refine bw_al ?_ _ | with_reducible refine Bw.then ?_ (by with_reducible assumption))), fun _ => by rw [Nat.add_sub_cancel]; exact Int.not_lt.1 fun h => by have := HZ.out.2 h; omega, hhi⟩, by simp [intOf]; omega⟩
    · have hpq' : p = q := by omega
      subst hpq'
      obtain ⟨e, he⟩ : ∃ e, e = p - a := ⟨_, rfl⟩
      have hle : e ≤ A.length := by have := Hla.out; omega
      have hfin : Hid (LS (mvL y A e) ∧ (mvL y A e).Perm (A ++ [y])) := by
        refine ⟨LS_right hA hT (fun h1 => ?_) (fun h1 => ?_) hle, ?_⟩
        · have h2 := hlo.out (by omega)
          rw [show p - 1 - a = e - 1 by omega] at h2
          exact Int.not_lt.2 h2
        · have h2 := hhi.out (by have := Hla.out; omega)
          rwa [← he] at h2
        · unfold mvL
          refine List.perm_middle.trans ?_
          rw [List.take_append_drop]
          exact (List.perm_append_singleton _ _).symm
      have hpe : p = a + e := by omega
      have hA := Hh.out.after hd
      have hgr0 := grown_bw hd (some g)
      clear hlo hhi hT Hh he
      go_wp2_with fail
      rename World => W1
      go_loopw [17] (fun i wq => ∃ t : Nat, e ≤ t ∧ t ≤ la ∧ i = .int .i64 ((a + t : Nat) : Int) ∧ w.grownBy wq (some g) ∧ Acc tEn 37 wq base (.slice (some ⟨g, 0, none⟩) n cap) (P ++ (mvL y A t ++ S))) (fun i _ => (intOf i).toNat)
      case atStart => exact ⟨la, by rw [Hla.out]; exact hle, Nat.le_refl _, by rw [ham], hgr0, by rw [Hla.out, mvL_top]; exact hA⟩
      case round =>
        obtain ⟨t, het, htl, rfl, hgr, hAt⟩ := hrel
        by_cases hlt2 : e < t
        · obtain ⟨t', ht'⟩ : ∃ t', t = t' + 1 := ⟨t - 1, by omega⟩
          obtain ⟨p1, hp1⟩ : ∃ p1, p1 = a + t := ⟨_, rfl⟩
          obtain ⟨q1, hq1⟩ : ∃ q1, q1 = a + t' := ⟨_, rfl⟩
          rw [← hp1]
          have hqi : (p1 : Int) - 1 = (q1 : Int) := by omega
          have hqw : IntKind.i64.wrap (q1 : Int) = (q1 : Int) := by simp [IntKind.wrap, IntKind.bits, IntKind.signed]; omega
          have hpn : p1 < n := by omega
          have hqn : q1 < n := by omega
          have hpt : (p : Int) < (p1 : Int) := by omega
          obtain ⟨x, u1, hx, hxs, hxc, hu1, e0, e1, e2⟩ := hAt.en' (k := p1) hpn
          obtain ⟨z, u2, hy, hys, hyc, hu2, f0, f1, f2⟩ := hAt.en' (k := q1) hqn
          have hml : (mvL y A t).length = A.length + 1 := mvL_len
          have hlA := Hla.out
          have hx1 : x = y := by
            have h1 := at_seg P (mvL y A t) S (i := t) (by rw [hp1, Ha.out]) (by omega) hx.out
            rw [mvL_at (by omega), if_neg (by omega), if_pos rfl] at h1
            injection h1 with h1
            exact h1.symm
          subst hx1
          have hyB : A[t']? = some z := by
            have h1 := at_seg P (mvL x A t) S (i := t') (by rw [hq1, Ha.out]) (by omega) hy.out
            rw [mvL_at (by omega), if_pos (by omega)] at h1
            exact h1
          have hres : Hid (((P ++ (mvL x A t ++ S)).set p1 z).set q1 x = P ++ (mvL x A t' ++ S)) := by
            show _ = _
            rw [hq1, hp1, Ha.out, set_mid _ _ _ _ (by omega), set_mid _ _ _ _ (by rw [List.length_set]; omega), ht', mvL_dn (by omega) hyB]
          have Hp1 := Lib.hid hp1
          have Hq1 := Lib.hid hq1
          have Ht' := Lib.hid ht'
          have hpq : p1 ≠ q1 := by omega
          have hq1e : e ≤ t' := by omega
          have hq1l : t' ≤ la := by omega
          have hqq : q1 < p1 := by omega
          have hqt : q1 = a + t' := hq1
          have hpp : p1 = a + t := hp1
          clear hp1 hq1 hx hy hyB hml ht' hlA
          have hAd := hAt.after (Below.refl _ _).drew
          have hu1 : Sl tInt wr.drew (fun b => base ≤ b ∧ some b ≠ some g) u1 x.1 := hu1
          have hu2 : Sl tInt wr.drew (fun b => base ≤ b ∧ some b ≠ some g) u2 z.1 := hu2
          have hgd : w.grownBy wr.drew (some g) := grown_drew hgr
          have Hqt := Lib.hid hqt
          have Hpp := Lib.hid hpp
          clear hAt hgr hA hqt hpp
          go_wp2_with fail
          refine wp_region_held_drew (S := fun _ => True) (by kernel_rfl) trivial (fun hHeld => ?_)
          refine wpAnyH_take (i := 0) (oi := { dst := some 113, op := Go.Op.move (Go.Operand.tmp 0), type := 28, pos := "zsortanyfunc.go:422", after := #[], guard := none }) (v := ?v23) rfl (by kernel_rfl) (by kernel_rfl) (by kernel_rfl) (fun _ _ _ h => h) (Or.inl ⟨by rfl, ?hy23⟩) (by assumption) ?_
          case hy23 => (intro w hSw; (try dsimp only at hSw); go_simp; try with_reducible rfl)
          try simp only [Act.put, List.setIfInBounds_toArray, List.set_cons_zero, List.set_cons_succ]
          refine wpAnyH_take (i := 1) (oi := { dst := some 114, op := Go.Op.move (Go.Operand.tmp 17), type := 3, pos := "zsortanyfunc.go:422", after := #[], guard := none }) (v := ?v24) rfl (by kernel_rfl) (by kernel_rfl) (by kernel_rfl) (fun _ _ _ h => h) (Or.inl ⟨by rfl, ?hy24⟩) (by assumption) ?_
          case hy24 => (intro w hSw; (try dsimp only at hSw); go_simp; try with_reducible rfl)
          try simp only [Act.put, List.setIfInBounds_toArray, List.set_cons_zero, List.set_cons_succ]
          refine wpAnyH_take (i := 2) (oi := { dst := some 115, op := Go.Op.move (Go.Operand.tmp 0), type := 28, pos := "zsortanyfunc.go:422", after := #[{ on := 15, ground := Go.Ground.gcOnly Go.Departure.lateStores }], guard := none }) (v := ?v25) rfl (by kernel_rfl) (by kernel_rfl) (by kernel_rfl) (fun _ _ _ h => h) (Or.inl ⟨by rfl, ?hy25⟩) (by assumption) ?_
          case hy25 => (intro w hSw; (try dsimp only at hSw); go_simp; try with_reducible rfl)
          try simp only [Act.put, List.setIfInBounds_toArray, List.set_cons_zero, List.set_cons_succ]
          refine wpAnyH_take (i := 3) (oi := { dst := some 116, op := Go.Op.move (Go.Operand.tmp 17), type := 3, pos := "zsortanyfunc.go:422", after := #[{ on := 15, ground := Go.Ground.gcOnly Go.Departure.lateStores }], guard := none }) (v := ?v26) rfl (by kernel_rfl) (by kernel_rfl) (by kernel_rfl) (fun _ _ _ h => h) (Or.inl ⟨by rfl, ?hy26⟩) (by assumption) ?_
          case hy26 => (intro w hSw; (try dsimp only at hSw); go_simp; try with_reducible rfl)
          try simp only [Act.put, List.setIfInBounds_toArray, List.set_cons_zero, List.set_cons_succ]
          refine wpAnyH_take (i := 4) (oi := { dst := some 117, op := Go.Op.binOp Go.BinOp.sub 3 (Go.Operand.tmp 116) (Go.Operand.const (Go.Value.int Go.IntKind.i64 1)) 3, type := 3, pos := "zsortanyfunc.go:422", after := #[{ on := 3, ground := Go.Ground.data }, { on := 15, ground := Go.Ground.gcOnly Go.Departure.lateStores }], guard := none }) (v := ?v27) rfl (by kernel_rfl) (by kernel_rfl) (by kernel_rfl) (fun _ _ _ h => h) (Or.inl ⟨by rfl, ?hy27⟩) (by assumption) ?_
          case hy27 => (intro w hSw; (try dsimp only at hSw); go_simp; try with_reducible rfl)
          try simp only [Act.put, List.setIfInBounds_toArray, List.set_cons_zero, List.set_cons_succ]
          refine wpAnyH_take (i := 5) (oi := { dst := some 118, op := Go.Op.move (Go.Operand.tmp 0), type := 28, pos := "zsortanyfunc.go:422", after := #[], guard := none }) (v := ?v28) rfl (by kernel_rfl) (by kernel_rfl) (by kernel_rfl) (fun _ _ _ h => h) (Or.inl ⟨by rfl, ?hy28⟩) (by assumption) ?_
          case hy28 => (intro w hSw; (try dsimp only at hSw); go_simp; try with_reducible rfl)
          try simp only [Act.put, List.setIfInBounds_toArray, List.set_cons_zero, List.set_cons_succ]
          refine wpAnyH_take (i := 6) (oi := { dst := some 119, op := Go.Op.move (Go.Operand.tmp 17), type := 3, pos := "zsortanyfunc.go:422", after := #[], guard := none }) (v := ?v29) rfl (by kernel_rfl) (by kernel_rfl) (by kernel_rfl) (fun _ _ _ h => h) (Or.inl ⟨by rfl, ?hy29⟩) (by assumption) ?_
          case hy29 => (intro w hSw; (try dsimp only at hSw); go_simp; try with_reducible rfl)
          try simp only [Act.put, List.setIfInBounds_toArray, List.set_cons_zero, List.set_cons_succ]
          refine wpAnyH_take (i := 7) (oi := { dst := some 120, op := Go.Op.binOp Go.BinOp.sub 3 (Go.Operand.tmp 119) (Go.Operand.const (Go.Value.int Go.IntKind.i64 1)) 3, type := 3, pos := "zsortanyfunc.go:422", after := #[{ on := 6, ground := Go.Ground.data }], guard := none }) (v := ?v30) rfl (by kernel_rfl) (by kernel_rfl) (by kernel_rfl) (fun _ _ _ h => h) (Or.inl ⟨by rfl, ?hy30⟩) (by assumption) ?_
          case hy30 => (intro w hSw; (try dsimp only at hSw); go_simp; try with_reducible rfl)
          try simp only [Act.put, List.setIfInBounds_toArray, List.set_cons_zero, List.set_cons_succ]
          refine wpAnyH_take (i := 8) (oi := { dst := some 121, op := Go.Op.indexAddr 28 (Go.Operand.tmp 118) (Go.Operand.tmp 120), type := 0, pos := "zsortanyfunc.go:422", after := #[{ on := 5, ground := Go.Ground.data }, { on := 7, ground := Go.Ground.data }], guard := none }) (v := ?v31) rfl (by kernel_rfl) (by kernel_rfl) (by kernel_rfl) (fun _ _ _ h => h) (Or.inl ⟨by rfl, ?hy31⟩) (by assumption) ?_
          case hy31 => (intro w hSw; (try dsimp only at hSw); go_simp; try with_reducible rfl)
          try simp only [Act.put, List.setIfInBounds_toArray, List.set_cons_zero, List.set_cons_succ]
          refine wpAnyH_take (i := 10) (oi := { dst := some 123, op := Go.Op.move (Go.Operand.tmp 0), type := 28, pos := "zsortanyfunc.go:422", after := #[], guard := none }) (v := ?v32) rfl (by kernel_rfl) (by kernel_rfl) (by kernel_rfl) (fun _ _ _ h => h) (Or.inl ⟨by rfl, ?hy32⟩) (by assumption) ?_
          case hy32 => (intro w hSw; (try dsimp only at hSw); go_simp; try with_reducible rfl)
          try simp only [Act.put, List.setIfInBounds_toArray, List.set_cons_zero, List.set_cons_succ]
          refine wpAnyH_take (i := 11) (oi := { dst := some 124, op := Go.Op.move (Go.Operand.tmp 17), type := 3, pos := "zsortanyfunc.go:422", after := #[], guard := none }) (v := ?v33) rfl (by kernel_rfl) (by kernel_rfl) (by kernel_rfl) (fun _ _ _ h => h) (Or.inl ⟨by rfl, ?hy33⟩) (by assumption) ?_
          case hy33 => (intro w hSw; (try dsimp only at hSw); go_simp; try with_reducible rfl)
          try simp only [Act.put, List.setIfInBounds_toArray, List.set_cons_zero, List.set_cons_succ]
          refine wpAnyH_take (i := 12) (oi := { dst := some 125, op := Go.Op.indexAddr 28 (Go.Operand.tmp 123) (Go.Operand.tmp 124), type := 0, pos := "zsortanyfunc.go:422", after := #[{ on := 10, ground := Go.Ground.data }, { on := 11, ground := Go.Ground.data }], guard := none }) (v := ?v34) rfl (by kernel_rfl) (by kernel_rfl) (by kernel_rfl) (fun _ _ _ h => h) (Or.inl ⟨by rfl, ?hy34⟩) (by assumption) ?_
          case hy34 => (intro w hSw; (try dsimp only at hSw); go_simp; try with_reducible rfl)
          try simp only [Act.put, List.setIfInBounds_toArray, List.set_cons_zero, List.set_cons_succ]
          refine wpAnyH_ready (rs := [9, 13]) (by kernel_rfl) (by simp) ?_
          refine (AllReadyH.cons (i := 9) (o := { dst := some 122, op := Go.Op.load 37 (Go.Operand.tmp 121), type := 37, pos := "zsortanyfunc.go:422", after := #[{ on := 8, ground := Go.Ground.data }], guard := none }) rfl (fun K' hK' => ?_) (AllReadyH.cons (i := 13) (o := { dst := some 126, op := Go.Op.load 37 (Go.Operand.tmp 125), type := 37, pos := "zsortanyfunc.go:422", after := #[{ on := 12, ground := Go.Ground.data }], guard := none }) rfl (fun K' hK' => ?_) AllReadyH.nil))
          · refine step_load_en rfl _ rfl rfl f0 f1 f2 ?_
            refine hK'.out _ _ trivial (fun hHeld => ?_)
            clear hK' K'
            try simp only [Act.put, List.setIfInBounds_toArray, List.set_cons_zero, List.set_cons_succ]
            refine wpAnyH_ready (rs := [13]) (by kernel_rfl) (by simp) ?_
            refine (AllReadyH.cons (i := 13) (o := { dst := some 126, op := Go.Op.load 37 (Go.Operand.tmp 125), type := 37, pos := "zsortanyfunc.go:422", after := #[{ on := 12, ground := Go.Ground.data }], guard := none }) rfl (fun K' hK' => ?_) AllReadyH.nil)
            refine step_load_en rfl _ rfl rfl e0 e1 e2 ?_
            refine hK'.out _ _ trivial (fun hHeld => ?_)
            clear hK' K'
            try simp only [Act.put, List.setIfInBounds_toArray, List.set_cons_zero, List.set_cons_succ]
            refine wpAnyH_take (i := 14) (oi := { dst := some 127, op := Go.Op.indexAddr 28 (Go.Operand.tmp 113) (Go.Operand.tmp 114), type := 0, pos := "zsortanyfunc.go:422", after := #[{ on := 0, ground := Go.Ground.data }, { on := 1, ground := Go.Ground.data }, { on := 0, ground := Go.Ground.phase }, { on := 1, ground := Go.Ground.phase }, { on := 2, ground := Go.Ground.textOnly Go.Departure.lateStores }, { on := 3, ground := Go.Ground.textOnly Go.Departure.lateStores }, { on := 4, ground := Go.Ground.textOnly Go.Departure.lateStores }, { on := 5, ground := Go.Ground.phase }, { on := 6, ground := Go.Ground.phase }, { on := 7, ground := Go.Ground.phase }, { on := 8, ground := Go.Ground.phase }, { on := 9, ground := Go.Ground.phase }, { on := 10, ground := Go.Ground.textOnly Go.Departure.lateStores }, { on := 11, ground := Go.Ground.textOnly Go.Departure.lateStores }, { on := 12, ground := Go.Ground.textOnly Go.Departure.lateStoresUnsure }, { on := 13, ground := Go.Ground.phase }], guard := none }) (v := ?v35) rfl (by kernel_rfl) (by kernel_rfl) (by kernel_rfl) (fun _ _ _ h => h) (Or.inl ⟨by rfl, ?hy35⟩) (by assumption) ?_
            case hy35 => (intro w hSw; (try dsimp only at hSw); go_simp; try with_reducible rfl)
            try simp only [Act.put, List.setIfInBounds_toArray, List.set_cons_zero, List.set_cons_succ]
            refine wpAnyH_ready (rs := [15]) (by kernel_rfl) (by simp) ?_
            refine (AllReadyH.cons (i := 15) (o := { dst := none, op := Go.Op.store 37 (Go.Operand.tmp 127) (Go.Operand.tmp 122), type := 0, pos := "zsortanyfunc.go:422", after := #[{ on := 14, ground := Go.Ground.data }, { on := 9, ground := Go.Ground.data }, { on := 0, ground := Go.Ground.phase }, { on := 1, ground := Go.Ground.phase }, { on := 2, ground := Go.Ground.textOnly Go.Departure.lateStores }, { on := 3, ground := Go.Ground.textOnly Go.Departure.lateStores }, { on := 4, ground := Go.Ground.textOnly Go.Departure.lateStores }, { on := 5, ground := Go.Ground.phase }, { on := 6, ground := Go.Ground.phase }, { on := 7, ground := Go.Ground.phase }, { on := 8, ground := Go.Ground.phase }, { on := 9, ground := Go.Ground.phase }, { on := 10, ground := Go.Ground.textOnly Go.Departure.lateStores }, { on := 11, ground := Go.Ground.textOnly Go.Departure.lateStores }, { on := 12, ground := Go.Ground.textOnly Go.Departure.lateStoresUnsure }, { on := 13, ground := Go.Ground.phase }], guard := none }) rfl (fun K' hK' => ?_) AllReadyH.nil)
            refine step_store_en rfl _ _ rfl rfl rfl hAd hpn hu2 hys hyc ?_
            intro wA hA1 hgA
            refine hK'.out _ _ trivial (fun hHeld => ?_)
            clear hK' K'
            try simp only [Act.put, List.setIfInBounds_toArray, List.set_cons_zero, List.set_cons_succ]
            refine wpAnyH_take (i := 16) (oi := { dst := some 128, op := Go.Op.indexAddr 28 (Go.Operand.tmp 115) (Go.Operand.tmp 117), type := 0, pos := "zsortanyfunc.go:422", after := #[{ on := 2, ground := Go.Ground.data }, { on := 4, ground := Go.Ground.data }, { on := 0, ground := Go.Ground.phase }, { on := 1, ground := Go.Ground.phase }, { on := 2, ground := Go.Ground.phase }, { on := 3, ground := Go.Ground.phase }, { on := 4, ground := Go.Ground.phase }, { on := 5, ground := Go.Ground.phase }, { on := 6, ground := Go.Ground.phase }, { on := 7, ground := Go.Ground.phase }, { on := 8, ground := Go.Ground.phase }, { on := 9, ground := Go.Ground.phase }, { on := 10, ground := Go.Ground.phase }, { on := 11, ground := Go.Ground.phase }, { on := 12, ground := Go.Ground.phase }, { on := 13, ground := Go.Ground.phase }, { on := 14, ground := Go.Ground.phase }, { on := 15, ground := Go.Ground.phase }], guard := none }) (v := ?v36) rfl (by kernel_rfl) (by kernel_rfl) (by kernel_rfl) (fun _ _ _ h => h) (Or.inl ⟨by rfl, ?hy36⟩) (by assumption) ?_
            case hy36 => (intro w hSw; (try dsimp only at hSw); go_simp; try with_reducible rfl)
            try simp only [Act.put, List.setIfInBounds_toArray, List.set_cons_zero, List.set_cons_succ]
            refine wpAnyH_ready (rs := [17]) (by kernel_rfl) (by simp) ?_
            refine (AllReadyH.cons (i := 17) (o := { dst := none, op := Go.Op.store 37 (Go.Operand.tmp 128) (Go.Operand.tmp 126), type := 0, pos := "zsortanyfunc.go:422", after := #[{ on := 16, ground := Go.Ground.data }, { on := 13, ground := Go.Ground.data }, { on := 15, ground := Go.Ground.chain }, { on := 0, ground := Go.Ground.phase }, { on := 1, ground := Go.Ground.phase }, { on := 2, ground := Go.Ground.phase }, { on := 3, ground := Go.Ground.phase }, { on := 4, ground := Go.Ground.phase }, { on := 5, ground := Go.Ground.phase }, { on := 6, ground := Go.Ground.phase }, { on := 7, ground := Go.Ground.phase }, { on := 8, ground := Go.Ground.phase }, { on := 9, ground := Go.Ground.phase }, { on := 10, ground := Go.Ground.phase }, { on := 11, ground := Go.Ground.phase }, { on := 12, ground := Go.Ground.phase }, { on := 13, ground := Go.Ground.phase }, { on := 14, ground := Go.Ground.phase }, { on := 15, ground := Go.Ground.phase }], guard := none }) rfl (fun K' hK' => ?_) AllReadyH.nil)
            refine step_store_en rfl _ _ rfl rfl rfl hA1 hqn (sl_grown hu1 hgA) hxs hxc ?_
            intro wB hA2 hgB
            refine hK'.out _ _ trivial (fun hHeld => ?_)
            clear hK' K'
            try simp only [Act.put, List.setIfInBounds_toArray, List.set_cons_zero, List.set_cons_succ]
            refine wpAnyH_done (by kernel_rfl) ?_ _
            rw [hres.out] at hA2
            go_wp2_with fail
            exact ⟨⟨t', hq1e, hq1l, by rw [← Hqt.out], grown_trans hgd (grown_trans hgA hgB), hA2⟩, by have := Hqt.out; have := Hpp.out; simp [intOf, hqw]; omega⟩
          · refine step_load_en rfl _ rfl rfl e0 e1 e2 ?_
            refine hK'.out _ _ trivial (fun hHeld => ?_)
            clear hK' K'
            try simp only [Act.put, List.setIfInBounds_toArray, List.set_cons_zero, List.set_cons_succ]
            refine wpAnyH_ready (rs := [9]) (by kernel_rfl) (by simp) ?_
            refine (AllReadyH.cons (i := 9) (o := { dst := some 122, op := Go.Op.load 37 (Go.Operand.tmp 121), type := 37, pos := "zsortanyfunc.go:422", after := #[{ on := 8, ground := Go.Ground.data }], guard := none }) rfl (fun K' hK' => ?_) AllReadyH.nil)
            refine step_load_en rfl _ rfl rfl f0 f1 f2 ?_
            refine hK'.out _ _ trivial (fun hHeld => ?_)
            clear hK' K'
            try simp only [Act.put, List.setIfInBounds_toArray, List.set_cons_zero, List.set_cons_succ]
            refine wpAnyH_take (i := 14) (oi := { dst := some 127, op := Go.Op.indexAddr 28 (Go.Operand.tmp 113) (Go.Operand.tmp 114), type := 0, pos := "zsortanyfunc.go:422", after := #[{ on := 0, ground := Go.Ground.data }, { on := 1, ground := Go.Ground.data }, { on := 0, ground := Go.Ground.phase }, { on := 1, ground := Go.Ground.phase }, { on := 2, ground := Go.Ground.textOnly Go.Departure.lateStores }, { on := 3, ground := Go.Ground.textOnly Go.Departure.lateStores }, { on := 4, ground := Go.Ground.textOnly Go.Departure.lateStores }, { on := 5, ground := Go.Ground.phase }, { on := 6, ground := Go.Ground.phase }, { on := 7, ground := Go.Ground.phase }, { on := 8, ground := Go.Ground.phase }, { on := 9, ground := Go.Ground.phase }, { on := 10, ground := Go.Ground.textOnly Go.Departure.lateStores }, { on := 11, ground := Go.Ground.textOnly Go.Departure.lateStores }, { on := 12, ground := Go.Ground.textOnly Go.Departure.lateStoresUnsure }, { on := 13, ground := Go.Ground.phase }], guard := none }) (v := ?v37) rfl (by kernel_rfl) (by kernel_rfl) (by kernel_rfl) (fun _ _ _ h => h) (Or.inl ⟨by rfl, ?hy37⟩) (by assumption) ?_
            case hy37 => (intro w hSw; (try dsimp only at hSw); go_simp; try with_reducible rfl)
            try simp only [Act.put, List.setIfInBounds_toArray, List.set_cons_zero, List.set_cons_succ]
            refine wpAnyH_ready (rs := [15]) (by kernel_rfl) (by simp) ?_
            refine (AllReadyH.cons (i := 15) (o := { dst := none, op := Go.Op.store 37 (Go.Operand.tmp 127) (Go.Operand.tmp 122), type := 0, pos := "zsortanyfunc.go:422", after := #[{ on := 14, ground := Go.Ground.data }, { on := 9, ground := Go.Ground.data }, { on := 0, ground := Go.Ground.phase }, { on := 1, ground := Go.Ground.phase }, { on := 2, ground := Go.Ground.textOnly Go.Departure.lateStores }, { on := 3, ground := Go.Ground.textOnly Go.Departure.lateStores }, { on := 4, ground := Go.Ground.textOnly Go.Departure.lateStores }, { on := 5, ground := Go.Ground.phase }, { on := 6, ground := Go.Ground.phase }, { on := 7, ground := Go.Ground.phase }, { on := 8, ground := Go.Ground.phase }, { on := 9, ground := Go.Ground.phase }, { on := 10, ground := Go.Ground.textOnly Go.Departure.lateStores }, { on := 11, ground := Go.Ground.textOnly Go.Departure.lateStores }, { on := 12, ground := Go.Ground.textOnly Go.Departure.lateStoresUnsure }, { on := 13, ground := Go.Ground.phase }], guard := none }) rfl (fun K' hK' => ?_) AllReadyH.nil)
            refine step_store_en rfl _ _ rfl rfl rfl hAd hpn hu2 hys hyc ?_
            intro wA hA1 hgA
            refine hK'.out _ _ trivial (fun hHeld => ?_)
            clear hK' K'
            try simp only [Act.put, List.setIfInBounds_toArray, List.set_cons_zero, List.set_cons_succ]
            refine wpAnyH_take (i := 16) (oi := { dst := some 128, op := Go.Op.indexAddr 28 (Go.Operand.tmp 115) (Go.Operand.tmp 117), type := 0, pos := "zsortanyfunc.go:422", after := #[{ on := 2, ground := Go.Ground.data }, { on := 4, ground := Go.Ground.data }, { on := 0, ground := Go.Ground.phase }, { on := 1, ground := Go.Ground.phase }, { on := 2, ground := Go.Ground.phase }, { on := 3, ground := Go.Ground.phase }, { on := 4, ground := Go.Ground.phase }, { on := 5, ground := Go.Ground.phase }, { on := 6, ground := Go.Ground.phase }, { on := 7, ground := Go.Ground.phase }, { on := 8, ground := Go.Ground.phase }, { on := 9, ground := Go.Ground.phase }, { on := 10, ground := Go.Ground.phase }, { on := 11, ground := Go.Ground.phase }, { on := 12, ground := Go.Ground.phase }, { on := 13, ground := Go.Ground.phase }, { on := 14, ground := Go.Ground.phase }, { on := 15, ground := Go.Ground.phase }], guard := none }) (v := ?v38) rfl (by kernel_rfl) (by kernel_rfl) (by kernel_rfl) (fun _ _ _ h => h) (Or.inl ⟨by rfl, ?hy38⟩) (by assumption) ?_
            case hy38 => (intro w hSw; (try dsimp only at hSw); go_simp; try with_reducible rfl)
            try simp only [Act.put, List.setIfInBounds_toArray, List.set_cons_zero, List.set_cons_succ]
            refine wpAnyH_ready (rs := [17]) (by kernel_rfl) (by simp) ?_
            refine (AllReadyH.cons (i := 17) (o := { dst := none, op := Go.Op.store 37 (Go.Operand.tmp 128) (Go.Operand.tmp 126), type := 0, pos := "zsortanyfunc.go:422", after := #[{ on := 16, ground := Go.Ground.data }, { on := 13, ground := Go.Ground.data }, { on := 15, ground := Go.Ground.chain }, { on := 0, ground := Go.Ground.phase }, { on := 1, ground := Go.Ground.phase }, { on := 2, ground := Go.Ground.phase }, { on := 3, ground := Go.Ground.phase }, { on := 4, ground := Go.Ground.phase }, { on := 5, ground := Go.Ground.phase }, { on := 6, ground := Go.Ground.phase }, { on := 7, ground := Go.Ground.phase }, { on := 8, ground := Go.Ground.phase }, { on := 9, ground := Go.Ground.phase }, { on := 10, ground := Go.Ground.phase }, { on := 11, ground := Go.Ground.phase }, { on := 12, ground := Go.Ground.phase }, { on := 13, ground := Go.Ground.phase }, { on := 14, ground := Go.Ground.phase }, { on := 15, ground := Go.Ground.phase }], guard := none }) rfl (fun K' hK' => ?_) AllReadyH.nil)
            refine step_store_en rfl _ _ rfl rfl rfl hA1 hqn (sl_grown hu1 hgA) hxs hxc ?_
            intro wB hA2 hgB
            refine hK'.out _ _ trivial (fun hHeld => ?_)
            clear hK' K'
            try simp only [Act.put, List.setIfInBounds_toArray, List.set_cons_zero, List.set_cons_succ]
            refine wpAnyH_done (by kernel_rfl) ?_ _
            rw [hres.out] at hA2
            go_wp2_with fail
            exact ⟨⟨t', hq1e, hq1l, by rw [← Hqt.out], grown_trans hgd (grown_trans hgA hgB), hA2⟩, by have := Hqt.out; have := Hpp.out; simp [intOf, hqw]; omega⟩
        · have hte' : t = e := by omega
          subst hte'
          have hpt : ¬ (p : Int) < ((a + t : Nat) : Int) := by omega
          have HAA := Lib.hid hAt
          clear hAt hA
          go_wp2_with fail
          go_end0
          exact ⟨rfl, _, hfin.out.2, hfin.out.1, HAA.out, hgr⟩
end Go.Proofs.YtonadloonidmjaaDoor
namespace Go.Proofs.YtonadloonidmjaaDoor
open Go.RowKit
open Pl

theorem TL.take_drop {A B : List En} (h : TL A B) (i j : Nat) : TL (A.take i) (B.take j) ∧ TL (A.drop i) (B.drop j) :=
  ⟨fun x hx y hy => h x (List.mem_of_mem_take hx) y (List.mem_of_mem_take hy), fun x hx y hy => h x (List.mem_of_mem_drop hx) y (List.mem_of_mem_drop hy)⟩
/-- A merge with nothing to do. -/
theorem LS_void {A B : List En} (hA : LS A) (hB : LS B) (h : A.length = 0 ∨ B.length = 0) : LS (A ++ B) := by
  rcases h with h | h
  · rw [List.eq_nil_of_length_eq_zero h]; exact hB
  · rw [List.eq_nil_of_length_eq_zero h, List.append_nil]; exact hA
theorem append_void {α : Type} (A B : List α) (h : A.length = 0 ∨ B.length = 0) : A ++ B = B ++ A := by
  rcases h with h | h <;> (rw [List.eq_nil_of_length_eq_zero h]; simp)

/-- The merge of two lists with together at most N elements. -/
def MrgAt (N : Nat) : Prop := ∀ {g base n cap a m b : Nat} {w : World} {P A B S : List En}, A.length + B.length ≤ N → Acc tEn 37 w base (.slice (some ⟨g, 0, none⟩) n cap) (P ++ (A ++ (B ++ S))) → a = P.length → m = P.length + A.length → b = P.length + A.length + B.length → 0 < A.length → 0 < B.length → LS A → LS B → TL A B → n ≤ 1000000 →
  Calls Tryd.prog 71 #[.slice (some ⟨g, 0, none⟩) n cap, .int .i64 a, .int .i64 m, .int .i64 b, .func (.func 32) #[] #[]] w (MrgR g base n cap w P (A ++ B) S)

set_option linter.unusedSimpArgs false in
set_option maxRecDepth 100000 in
set_option maxHeartbeats 32000000 in
theorem mergeG_any {N g base n cap a m b : Nat} {w : World} {P A B S : List En} (hI : MrgAt N) (hN : A.length + B.length ≤ N + 1) (h : Acc tEn 37 w base (.slice (some ⟨g, 0, none⟩) n cap) (P ++ (A ++ (B ++ S)))) (ha : a = P.length) (hm : m = P.length + A.length) (hb : b = P.length + A.length + B.length) (hA2 : 2 ≤ A.length) (hB2 : 2 ≤ B.length) (hA : LS A) (hB : LS B) (hT : TL A B) (hn : n ≤ 1000000) :
    Calls Tryd.prog 71 #[.slice (some ⟨g, 0, none⟩) n cap, .int .i64 a, .int .i64 m, .int .i64 b, .func (.func 32) #[] #[]] w (MrgR g base n cap w P (A ++ B) S) := by
  obtain ⟨la, hla⟩ : ∃ la, la = A.length := ⟨_, rfl⟩
  obtain ⟨lb, hlb⟩ : ∃ lb, lb = B.length := ⟨_, rfl⟩
  have hlen : n = P.length + A.length + B.length + S.length := by rw [acc_len h]; simp; omega
  have hma : (m : Int) - (a : Int) = (la : Int) := by omega
  have hbm : (b : Int) - (m : Int) = (lb : Int) := by omega
  have hlaw : IntKind.i64.wrap (la : Int) = (la : Int) := by simp [IntKind.wrap, IntKind.bits, IntKind.signed]; omega
  have hlbw : IntKind.i64.wrap (lb : Int) = (lb : Int) := by simp [IntKind.wrap, IntKind.bits, IntKind.signed]; omega
  have hla1 : ((la : Int) == 1) = false := by rw [beq_eq_false_iff_ne]; omega
  have hlb1 : ((lb : Int) == 1) = false := by rw [beq_eq_false_iff_ne]; omega
  have hbn : b ≤ n := by omega
  have ham : a + la = m := by omega
  have hmb : m + lb = b := by omega
  have hla2 : 2 ≤ la := by omega
  have hlb2 : 2 ≤ lb := by omega
  have hNN : la + lb ≤ N + 1 := by omega
  have hmid := mid_eq (p := a) (q := b) (by omega) (by omega)
  obtain ⟨d, hde⟩ : ∃ d, d = (a + b) / 2 := ⟨_, rfl⟩
  rw [← hde] at hmid
  have hmid3 : ((a : Int) + (b : Int)) / 2 = (d : Int) := by omega
  have hd1 : a + b ≤ 2 * d + 1 := by omega
  have hd2 : 2 * d ≤ a + b := by omega
  obtain ⟨n1, hn1⟩ : ∃ n1, n1 = d + m := ⟨_, rfl⟩
  have hn1i : (d : Int) + (m : Int) = (n1 : Int) := by omega
  have hn1w : IntKind.i64.wrap (n1 : Int) = (n1 : Int) := by simp [IntKind.wrap, IntKind.bits, IntKind.signed]; omega
  obtain ⟨pp, hpp⟩ : ∃ pp, pp = n1 - 1 := ⟨_, rfl⟩
  have hppi : (n1 : Int) - 1 = (pp : Int) := by omega
  have hppw : IntKind.i64.wrap (pp : Int) = (pp : Int) := by simp [IntKind.wrap, IntKind.bits, IntKind.signed]; omega
  have Ha := Lib.hid ha
  have Hm := Lib.hid hm
  have Hb := Lib.hid hb
  have Hla := Lib.hid hla
  have Hlb := Lib.hid hlb
  have Hh := Lib.hid h
  have Hn1 := Lib.hid hn1
  have Hpp := Lib.hid hpp
  have Ham := Lib.hid ham
  have Hmb := Lib.hid hmb
  have HI : Hid (MrgAt N) := hI
  clear ha hm hb hlen h hla hlb hde hn1 hpp ham hmb hN hI hA2 hB2
  by_cases hgt : d < m
  · obtain ⟨s0, hs0⟩ : ∃ s0, s0 = n1 - b := ⟨_, rfl⟩
    have hs0i : (n1 : Int) - (b : Int) = (s0 : Int) := by have := Hn1.out; have := Hmb.out; have := Ham.out; omega
    have hs0w : IntKind.i64.wrap (s0 : Int) = (s0 : Int) := by simp [IntKind.wrap, IntKind.bits, IntKind.signed]; have := Hn1.out; omega
    obtain ⟨r0, hr0⟩ : ∃ r0, r0 = d := ⟨_, rfl⟩
    have hgti : (d : Int) < (m : Int) := by omega
    have HR0 : Hid (a ≤ s0 ∧ s0 ≤ r0 ∧ r0 ≤ m ∧ r0 ≤ d ∧ n1 ≤ s0 + b ∧ (r0 = m ∨ r0 = d) ∧ (s0 = a ∨ s0 + b = n1)) := by have := Hn1.out; have := Hmb.out; have := Ham.out; exact ⟨by omega, by omega, by omega, by omega, by omega, .inr hr0, .inr (by omega)⟩
    have Hr0 := Lib.hid hr0
    clear hs0 hr0
    go_enter Tryd.func71, Tryd.ntmps71
    go_wp2_with fail
    go_loopw [20, 21] (fun i j wr => ∃ s r : Nat, s0 ≤ s ∧ s ≤ r ∧ r ≤ r0 ∧ i = .int .i64 s ∧ j = .int .i64 r ∧ Bw w wr ∧ Hid (s = s0 ∨ cA B (pp - (s - 1) - m) ≤ cA A (s - 1 - a)) ∧ Hid (r = r0 ∨ cA A (r - a) < cA B (pp - r - m))) (fun i j _ => (intOf j).toNat - (intOf i).toNat)
    case atStart => exact ⟨s0, r0, Nat.le_refl _, HR0.out.2.1, Nat.le_refl _, rfl, by rw [Hr0.out], Below.refl _ _, .inl rfl, .inl rfl⟩
    case round =>
      obtain ⟨s, r, hs0, hsr, hr0, rfl, rfl, hd, hlo, hhi⟩ := hrel
      obtain ⟨q1, q2, q3, q4, q5, q6, q7⟩ := HR0.out
      by_cases hlt : s < r
      · have hmidc := mid_eq (p := s) (q := r) (by omega) (by omega)
        obtain ⟨c, hme⟩ : ∃ c, c = (s + r) / 2 := ⟨_, rfl⟩
        have hm1 : s ≤ c := by omega
        have hm2 : c < r := by omega
        rw [← hme] at hmidc
        have hmid2 : ((s : Int) + (r : Int)) / 2 = (c : Int) := by omega
        clear hme
        obtain ⟨f, hfe⟩ : ∃ f, f = pp - c := ⟨_, rfl⟩
        have hcf : c + f = pp := by have := Hpp.out; have := Hn1.out; omega
        have hfm : m ≤ f := by have := Hpp.out; have := Hn1.out; omega
        have hfb : f < b := by have := Hpp.out; have := Hn1.out; omega
        have hfi : (pp : Int) - (c : Int) = (f : Int) := by omega
        have hfw : IntKind.i64.wrap (f : Int) = (f : Int) := by simp [IntKind.wrap, IntKind.bits, IntKind.signed]; omega
        have Hcf := Lib.hid hcf
        have hAc := Hh.out.after hd
        have hcn : c < n := by omega
        have hfn : f < n := by omega
        obtain ⟨y, u1, hy, hys, hyc, hu1, e0, e1, e2⟩ := hAc.en' (k := f) hfn
        obtain ⟨x, u2, hx, hxs, hxc, hu2, f0, f1, f2⟩ := hAc.en' (k := c) hcn
        obtain ⟨A1, n1', k1, rfl, _, _, _⟩ := hu1.form'
        obtain ⟨A2, n2, k2, rfl, _, _, _⟩ := hu2.form'
        have hxA : cA A (c - a) = x.2.2 := cA_of (at_seg P A (B ++ S) (i := c - a) (by rw [← Ha.out]; omega) (by have := Hla.out; have := Ham.out; omega) hx.out)
        have hyB : cA B (f - m) = y.2.2 := by
          have h1 := hy.out
          rw [← List.append_assoc] at h1
          exact cA_of (at_seg (P ++ A) B S (i := f - m) (by rw [List.length_append, ← Hm.out]; omega) (by have := Hlb.out; have := Hmb.out; omega) h1)
        have HO2 := likes_at (u1 := .slice A1 n1' k1) (s1 := .string y.2.1) (c1 := y.2.2) (u2 := .slice A2 n2 k2) (s2 := .string x.2.1) (c2 := x.2.2) wr
        have HZ : Hid (cmpI x.2.2 y.2.2 < 0 ↔ cA A (c - a) < cA B (f - m)) := by show _ ↔ _; rw [hxA, hyB]; exact cmpI_neg
        have K0 : ∀ W, Bw wr W → (W.cell? ⟨g, f * 3, none⟩ = some (.slice A1 n1' k1) ∧ W.cell? ⟨g, f * 3 + 1, none⟩ = some (.string y.2.1) ∧ W.cell? ⟨g, f * 3 + 2, none⟩ = some (.int .i64 y.2.2) ∧ W.cell? ⟨g, c * 3, none⟩ = some (.slice A2 n2 k2) ∧ W.cell? ⟨g, c * 3 + 1, none⟩ = some (.string x.2.1) ∧ W.cell? ⟨g, c * 3 + 2, none⟩ = some (.int .i64 x.2.2)) := fun W kk =>
          ⟨bw_cell kk e0, bw_cell kk e1, bw_cell kk e2, bw_cell kk f0, bw_cell kk f1, bw_cell kk f2⟩
        generalize cmpI x.2.2 y.2.2 = z at *
        clear hAc hu1 hu2 hy hx e0 e1 e2 f0 f1 f2 hxA hyB hyc hys hxc hxs hA hB hT hcf hfe hmid
        by_cases hz : z < 0
        · have hzd := decide_eq_true hz
          go_wp2_with fail
          refine wp_region_held_drew (S := fun u => u.cell? ⟨g, f * 3, none⟩ = some (.slice A1 n1' k1) ∧ u.cell? ⟨g, f * 3 + 1, none⟩ = some (.string y.2.1) ∧ u.cell? ⟨g, f * 3 + 2, none⟩ = some (.int .i64 y.2.2) ∧ u.cell? ⟨g, c * 3, none⟩ = some (.slice A2 n2 k2) ∧ u.cell? ⟨g, c * 3 + 1, none⟩ = some (.string x.2.1) ∧ u.cell? ⟨g, c * 3 + 2, none⟩ = some (.int .i64 x.2.2)) (by kernel_rfl) ?_ (fun hHeld => ?_)
          · exact K0 _ (Bw.drew (Below.refl _ _))
          refine wpAnyH_take (i := 0) (oi := { dst := some 158, op := Go.Op.move (Go.Operand.tmp 4), type := 52, pos := "zsortanyfunc.go:441", after := #[], guard := none }) (v := ?v501) rfl (by kernel_rfl) (by kernel_rfl) (by kernel_rfl) (fun _ _ _ h => h) (Or.inl ⟨by rfl, ?hy501⟩) (by assumption) ?_
          case hy501 => (intro w hSw; (try dsimp only at hSw); go_simp; try with_reducible rfl)
          try simp only [Act.put, List.setIfInBounds_toArray, List.set_cons_zero, List.set_cons_succ]
          refine wpAnyH_take (i := 1) (oi := { dst := some 159, op := Go.Op.move (Go.Operand.tmp 0), type := 28, pos := "zsortanyfunc.go:441", after := #[], guard := none }) (v := ?v502) rfl (by kernel_rfl) (by kernel_rfl) (by kernel_rfl) (fun _ _ _ h => h) (Or.inl ⟨by rfl, ?hy502⟩) (by assumption) ?_
          case hy502 => (intro w hSw; (try dsimp only at hSw); go_simp; try with_reducible rfl)
          try simp only [Act.put, List.setIfInBounds_toArray, List.set_cons_zero, List.set_cons_succ]
          refine wpAnyH_take (i := 2) (oi := { dst := some 160, op := Go.Op.move (Go.Operand.tmp 22), type := 3, pos := "zsortanyfunc.go:441", after := #[], guard := none }) (v := ?v503) rfl (by kernel_rfl) (by kernel_rfl) (by kernel_rfl) (fun _ _ _ h => h) (Or.inl ⟨by rfl, ?hy503⟩) (by assumption) ?_
          case hy503 => (intro w hSw; (try dsimp only at hSw); go_simp; try with_reducible rfl)
          try simp only [Act.put, List.setIfInBounds_toArray, List.set_cons_zero, List.set_cons_succ]
          refine wpAnyH_take (i := 3) (oi := { dst := some 161, op := Go.Op.move (Go.Operand.tmp 23), type := 3, pos := "zsortanyfunc.go:441", after := #[], guard := none }) (v := ?v504) rfl (by kernel_rfl) (by kernel_rfl) (by kernel_rfl) (fun _ _ _ h => h) (Or.inl ⟨by rfl, ?hy504⟩) (by assumption) ?_
          case hy504 => (intro w hSw; (try dsimp only at hSw); go_simp; try with_reducible rfl)
          try simp only [Act.put, List.setIfInBounds_toArray, List.set_cons_zero, List.set_cons_succ]
          refine wpAnyH_take (i := 4) (oi := { dst := some 162, op := Go.Op.binOp Go.BinOp.sub 3 (Go.Operand.tmp 160) (Go.Operand.tmp 161) 3, type := 3, pos := "zsortanyfunc.go:441", after := #[{ on := 2, ground := Go.Ground.data }, { on := 3, ground := Go.Ground.data }], guard := none }) (v := Value.int .i64 (f : Int)) rfl (by kernel_rfl) (by kernel_rfl) (by kernel_rfl) (fun _ _ _ h => h) (Or.inl ⟨by rfl, ?hy505⟩) (by assumption) ?_
          case hy505 => (intro w hSw; (try dsimp only at hSw); go_simp)
          try simp only [Act.put, List.setIfInBounds_toArray, List.set_cons_zero, List.set_cons_succ]
          refine wpAnyH_take (i := 5) (oi := { dst := some 163, op := Go.Op.indexAddr 28 (Go.Operand.tmp 159) (Go.Operand.tmp 162), type := 0, pos := "zsortanyfunc.go:441", after := #[{ on := 1, ground := Go.Ground.data }, { on := 4, ground := Go.Ground.data }], guard := none }) (v := ?v506) rfl (by kernel_rfl) (by kernel_rfl) (by kernel_rfl) (fun _ _ _ h => h) (Or.inl ⟨by rfl, ?hy506⟩) (by assumption) ?_
          case hy506 => (intro w hSw; (try dsimp only at hSw); go_simp; try with_reducible rfl)
          try simp only [Act.put, List.setIfInBounds_toArray, List.set_cons_zero, List.set_cons_succ]
          refine wpAnyH_take (i := 6) (oi := { dst := some 164, op := Go.Op.load 37 (Go.Operand.tmp 163), type := 37, pos := "zsortanyfunc.go:441", after := #[{ on := 5, ground := Go.Ground.data }], guard := none }) (v := ?v507) rfl (by kernel_rfl) (by kernel_rfl) (by kernel_rfl) (fun _ _ _ h => h) (Or.inl ⟨by rfl, ?hy507⟩) (by assumption) ?_
          case hy507 => (intro w hSw; (try dsimp only at hSw); go_simp; try with_reducible rfl)
          try simp only [Act.put, List.setIfInBounds_toArray, List.set_cons_zero, List.set_cons_succ]
          refine wpAnyH_take (i := 7) (oi := { dst := some 165, op := Go.Op.move (Go.Operand.tmp 0), type := 28, pos := "zsortanyfunc.go:441", after := #[], guard := none }) (v := ?v508) rfl (by kernel_rfl) (by kernel_rfl) (by kernel_rfl) (fun _ _ _ h => h) (Or.inl ⟨by rfl, ?hy508⟩) (by assumption) ?_
          case hy508 => (intro w hSw; (try dsimp only at hSw); go_simp; try with_reducible rfl)
          try simp only [Act.put, List.setIfInBounds_toArray, List.set_cons_zero, List.set_cons_succ]
          refine wpAnyH_take (i := 8) (oi := { dst := some 166, op := Go.Op.move (Go.Operand.tmp 23), type := 3, pos := "zsortanyfunc.go:441", after := #[], guard := none }) (v := ?v509) rfl (by kernel_rfl) (by kernel_rfl) (by kernel_rfl) (fun _ _ _ h => h) (Or.inl ⟨by rfl, ?hy509⟩) (by assumption) ?_
          case hy509 => (intro w hSw; (try dsimp only at hSw); go_simp; try with_reducible rfl)
          try simp only [Act.put, List.setIfInBounds_toArray, List.set_cons_zero, List.set_cons_succ]
          refine wpAnyH_take (i := 9) (oi := { dst := some 167, op := Go.Op.indexAddr 28 (Go.Operand.tmp 165) (Go.Operand.tmp 166), type := 0, pos := "zsortanyfunc.go:441", after := #[{ on := 7, ground := Go.Ground.data }, { on := 8, ground := Go.Ground.data }], guard := none }) (v := ?v510) rfl (by kernel_rfl) (by kernel_rfl) (by kernel_rfl) (fun _ _ _ h => h) (Or.inl ⟨by rfl, ?hy510⟩) (by assumption) ?_
          case hy510 => (intro w hSw; (try dsimp only at hSw); go_simp; try with_reducible rfl)
          try simp only [Act.put, List.setIfInBounds_toArray, List.set_cons_zero, List.set_cons_succ]
          refine wpAnyH_take (i := 10) (oi := { dst := some 168, op := Go.Op.load 37 (Go.Operand.tmp 167), type := 37, pos := "zsortanyfunc.go:441", after := #[{ on := 9, ground := Go.Ground.data }], guard := none }) (v := ?v511) rfl (by kernel_rfl) (by kernel_rfl) (by kernel_rfl) (fun _ _ _ h => h) (Or.inl ⟨by rfl, ?hy511⟩) (by assumption) ?_
          case hy511 => (intro w hSw; (try dsimp only at hSw); go_simp; try with_reducible rfl)
          try simp only [Act.put, List.setIfInBounds_toArray, List.set_cons_zero, List.set_cons_succ]
          refine wpAnyH_ready (rs := [11]) (by kernel_rfl) (by simp) ?_
          refine (AllReadyH.cons (i := 11) (o := { dst := some 169, op := Go.Op.call { callee := Go.Callee.value (Go.Operand.tmp 158), args := #[Go.Operand.tmp 164, Go.Operand.tmp 168], argTypes := #[37, 37] }, type := 3, pos := "zsortanyfunc.go:441", after := #[{ on := 0, ground := Go.Ground.data }, { on := 6, ground := Go.Ground.data }, { on := 10, ground := Go.Ground.data }], guard := none }) rfl (fun K' hK' => ?_) AllReadyH.nil)
          go_simp
          with_reducible refine (HO2.out _ (by (repeat' first | with_reducible exact Below.refl _ _ | with_reducible assumption | with_reducible refine Bw.drew ?_ | with_reducible refine Bw.drewN ?_ _ | with_reducible refine bw_al ?_ _ | with_reducible refine Bw.then ?_ (by with_reducible assumption)))).mono ?_
          rintro e wA ⟨rfl, hbA⟩
          try dsimp only
          refine hK'.out _ _ ?_ (fun hHeld => ?_)
          · exact K0 _ (by (repeat' first | with_reducible exact Below.refl _ _ | with_reducible assumption | with_reducible refine Bw.drew ?_ | with_reducible refine Bw.drewN ?_ _ | with_reducible refine bw_al ?_ _ | with_reducible refine Bw.then ?_ (by with_reducible assumption)))
          clear hK' K'
          try simp only [Act.put, List.setIfInBounds_toArray, List.set_cons_zero, List.set_cons_succ]
          refine wpAnyH_take (i := 12) (oi := { dst := some 170, op := Go.Op.binOp Go.BinOp.lss 3 (Go.Operand.tmp 169) (Go.Operand.const (Go.Value.int Go.IntKind.i64 0)) 3, type := 4, pos := "zsortanyfunc.go:441", after := #[{ on := 11, ground := Go.Ground.data }], guard := none }) (v := Value.bool true) rfl (by kernel_rfl) (by kernel_rfl) (by kernel_rfl) (fun _ _ _ h => h) (Or.inl ⟨by rfl, ?hy512⟩) (by assumption) ?_
          case hy512 => (intro w hSw; (try dsimp only at hSw); go_simp)
          try simp only [Act.put, List.setIfInBounds_toArray, List.set_cons_zero, List.set_cons_succ]
          refine wpAnyH_take (i := 13) (oi := { dst := some 171, op := Go.Op.unOp Go.UnOp.not 4 (Go.Operand.tmp 170), type := 4, pos := "zsortanyfunc.go:441", after := #[{ on := 12, ground := Go.Ground.data }], guard := none }) (v := Value.bool false) rfl (by kernel_rfl) (by kernel_rfl) (by kernel_rfl) (fun _ _ _ h => h) (Or.inl ⟨by rfl, ?hy513⟩) (by assumption) ?_
          case hy513 => (intro w hSw; (try dsimp only at hSw); go_simp)
          try simp only [Act.put, List.setIfInBounds_toArray, List.set_cons_zero, List.set_cons_succ]
          refine wpAnyH_done (by kernel_rfl) ?_ _
          go_wp2_with fail
          exact ⟨⟨s, c, hs0, hm1, by omega, rfl, rfl, hd.then (by (repeat' first | with_reducible exact Below.refl _ _ | with_reducible assumption | with_reducible refine Bw.drew ?_ | with_reducible refine Bw.drewN ?_ _ | with_reducible refine bw_al ?_ _ | with_reducible refine Bw.then ?_ (by with_reducible assumption))), hlo, .inr (by have h1 := HZ.out.1 hz; have h2 := Hcf.out; rwa [show pp - c - m = f - m by omega])⟩, by simp [intOf]; omega⟩
        · have hzd := decide_eq_false hz
          go_wp2_with fail
          refine wp_region_held_drew (S := fun u => u.cell? ⟨g, f * 3, none⟩ = some (.slice A1 n1' k1) ∧ u.cell? ⟨g, f * 3 + 1, none⟩ = some (.string y.2.1) ∧ u.cell? ⟨g, f * 3 + 2, none⟩ = some (.int .i64 y.2.2) ∧ u.cell? ⟨g, c * 3, none⟩ = some (.slice A2 n2 k2) ∧ u.cell? ⟨g, c * 3 + 1, none⟩ = some (.string x.2.1) ∧ u.cell? ⟨g, c * 3 + 2, none⟩ = some (.int .i64 x.2.2)) (by kernel_rfl) ?_ (fun hHeld => ?_)
          · exact K0 _ (Bw.drew (Below.refl _ _))
          refine wpAnyH_take (i := 0) (oi := { dst := some 158, op := Go.Op.move (Go.Operand.tmp 4), type := 52, pos := "zsortanyfunc.go:441", after := #[], guard := none }) (v := ?v514) rfl (by kernel_rfl) (by kernel_rfl) (by kernel_rfl) (fun _ _ _ h => h) (Or.inl ⟨by rfl, ?hy514⟩) (by assumption) ?_
          case hy514 => (intro w hSw; (try dsimp only at hSw); go_simp; try with_reducible rfl)
          try simp only [Act.put, List.setIfInBounds_toArray, List.set_cons_zero, List.set_cons_succ]
          refine wpAnyH_take (i := 1) (oi := { dst := some 159, op := Go.Op.move (Go.Operand.tmp 0), type := 28, pos := "zsortanyfunc.go:441", after := #[], guard := none }) (v := ?v515) rfl (by kernel_rfl) (by kernel_rfl) (by kernel_rfl) (fun _ _ _ h => h) (Or.inl ⟨by rfl, ?hy515⟩) (by assumption) ?_
          case hy515 => (intro w hSw; (try dsimp only at hSw); go_simp; try with_reducible rfl)
          try simp only [Act.put, List.setIfInBounds_toArray, List.set_cons_zero, List.set_cons_succ]
          refine wpAnyH_take (i := 2) (oi := { dst := some 160, op := Go.Op.move (Go.Operand.tmp 22), type := 3, pos := "zsortanyfunc.go:441", after := #[], guard := none }) (v := ?v516) rfl (by kernel_rfl) (by kernel_rfl) (by kernel_rfl) (fun _ _ _ h => h) (Or.inl ⟨by rfl, ?hy516⟩) (by assumption) ?_
          case hy516 => (intro w hSw; (try dsimp only at hSw); go_simp; try with_reducible rfl)
          try simp only [Act.put, List.setIfInBounds_toArray, List.set_cons_zero, List.set_cons_succ]
          refine wpAnyH_take (i := 3) (oi := { dst := some 161, op := Go.Op.move (Go.Operand.tmp 23), type := 3, pos := "zsortanyfunc.go:441", after := #[], guard := none }) (v := ?v517) rfl (by kernel_rfl) (by kernel_rfl) (by kernel_rfl) (fun _ _ _ h => h) (Or.inl ⟨by rfl, ?hy517⟩) (by assumption) ?_
          case hy517 => (intro w hSw; (try dsimp only at hSw); go_simp; try with_reducible rfl)
          try simp only [Act.put, List.setIfInBounds_toArray, List.set_cons_zero, List.set_cons_succ]
          refine wpAnyH_take (i := 4) (oi := { dst := some 162, op := Go.Op.binOp Go.BinOp.sub 3 (Go.Operand.tmp 160) (Go.Operand.tmp 161) 3, type := 3, pos := "zsortanyfunc.go:441", after := #[{ on := 2, ground := Go.Ground.data }, { on := 3, ground := Go.Ground.data }], guard := none }) (v := Value.int .i64 (f : Int)) rfl (by kernel_rfl) (by kernel_rfl) (by kernel_rfl) (fun _ _ _ h => h) (Or.inl ⟨by rfl, ?hy518⟩) (by assumption) ?_
          case hy518 => (intro w hSw; (try dsimp only at hSw); go_simp)
          try simp only [Act.put, List.setIfInBounds_toArray, List.set_cons_zero, List.set_cons_succ]
          refine wpAnyH_take (i := 5) (oi := { dst := some 163, op := Go.Op.indexAddr 28 (Go.Operand.tmp 159) (Go.Operand.tmp 162), type := 0, pos := "zsortanyfunc.go:441", after := #[{ on := 1, ground := Go.Ground.data }, { on := 4, ground := Go.Ground.data }], guard := none }) (v := ?v519) rfl (by kernel_rfl) (by kernel_rfl) (by kernel_rfl) (fun _ _ _ h => h) (Or.inl ⟨by rfl, ?hy519⟩) (by assumption) ?_
          case hy519 => (intro w hSw; (try dsimp only at hSw); go_simp; try with_reducible rfl)
          try simp only [Act.put, List.setIfInBounds_toArray, List.set_cons_zero, List.set_cons_succ]
          refine wpAnyH_take (i := 6) (oi := { dst := some 164, op := Go.Op.load 37 (Go.Operand.tmp 163), type := 37, pos := "zsortanyfunc.go:441", after := #[{ on := 5, ground := Go.Ground.data }], guard := none }) (v := ?v520) rfl (by kernel_rfl) (by kernel_rfl) (by kernel_rfl) (fun _ _ _ h => h) (Or.inl ⟨by rfl, ?hy520⟩) (by assumption) ?_
          case hy520 => (intro w hSw; (try dsimp only at hSw); go_simp; try with_reducible rfl)
          try simp only [Act.put, List.setIfInBounds_toArray, List.set_cons_zero, List.set_cons_succ]
          refine wpAnyH_take (i := 7) (oi := { dst := some 165, op := Go.Op.move (Go.Operand.tmp 0), type := 28, pos := "zsortanyfunc.go:441", after := #[], guard := none }) (v := ?v521) rfl (by kernel_rfl) (by kernel_rfl) (by kernel_rfl) (fun _ _ _ h => h) (Or.inl ⟨by rfl, ?hy521⟩) (by assumption) ?_
          case hy521 => (intro w hSw; (try dsimp only at hSw); go_simp; try with_reducible rfl)
          try simp only [Act.put, List.setIfInBounds_toArray, List.set_cons_zero, List.set_cons_succ]
          refine wpAnyH_take (i := 8) (oi := { dst := some 166, op := Go.Op.move (Go.Operand.tmp 23), type := 3, pos := "zsortanyfunc.go:441", after := #[], guard := none }) (v := ?v522) rfl (by kernel_rfl) (by kernel_rfl) (by kernel_rfl) (fun _ _ _ h => h) (Or.inl ⟨by rfl, ?hy522⟩) (by assumption) ?_
          case hy522 => (intro w hSw; (try dsimp only at hSw); go_simp; try with_reducible rfl)
          try simp only [Act.put, List.setIfInBounds_toArray, List.set_cons_zero, List.set_cons_succ]
          refine wpAnyH_take (i := 9) (oi := { dst := some 167, op := Go.Op.indexAddr 28 (Go.Operand.tmp 165) (Go.Operand.tmp 166), type := 0, pos := "zsortanyfunc.go:441", after := #[{ on := 7, ground := Go.Ground.data }, { on := 8, ground := Go.Ground.data }], guard := none }) (v := ?v523) rfl (by kernel_rfl) (by kernel_rfl) (by kernel_rfl) (fun _ _ _ h => h) (Or.inl ⟨by rfl, ?hy523⟩) (by assumption) ?_
          case hy523 => (intro w hSw; (try dsimp only at hSw); go_simp; try with_reducible rfl)
          try simp only [Act.put, List.setIfInBounds_toArray, List.set_cons_zero, List.set_cons_succ]
          refine wpAnyH_take (i := 10) (oi := { dst := some 168, op := Go.Op.load 37 (Go.Operand.tmp 167), type := 37, pos := "zsortanyfunc.go:441", after := #[{ on := 9, ground := Go.Ground.data }], guard := none }) (v := ?v524) rfl (by kernel_rfl) (by kernel_rfl) (by kernel_rfl) (fun _ _ _ h => h) (Or.inl ⟨by rfl, ?hy524⟩) (by assumption) ?_
          case hy524 => (intro w hSw; (try dsimp only at hSw); go_simp; try with_reducible rfl)
          try simp only [Act.put, List.setIfInBounds_toArray, List.set_cons_zero, List.set_cons_succ]
          refine wpAnyH_ready (rs := [11]) (by kernel_rfl) (by simp) ?_
          refine (AllReadyH.cons (i := 11) (o := { dst := some 169, op := Go.Op.call { callee := Go.Callee.value (Go.Operand.tmp 158), args := #[Go.Operand.tmp 164, Go.Operand.tmp 168], argTypes := #[37, 37] }, type := 3, pos := "zsortanyfunc.go:441", after := #[{ on := 0, ground := Go.Ground.data }, { on := 6, ground := Go.Ground.data }, { on := 10, ground := Go.Ground.data }], guard := none }) rfl (fun K' hK' => ?_) AllReadyH.nil)
          go_simp
          with_reducible refine (HO2.out _ (by (repeat' first | with_reducible exact Below.refl _ _ | with_reducible assumption | with_reducible refine Bw.drew ?_ | with_reducible refine Bw.drewN ?_ _ | with_reducible refine bw_al ?_ _ | with_reducible refine Bw.then ?_ (by with_reducible assumption)))).mono ?_
          rintro e wA ⟨rfl, hbA⟩
          try dsimp only
          refine hK'.out _ _ ?_ (fun hHeld => ?_)
          · exact K0 _ (by (repeat' first | with_reducible exact Below.refl _ _ | with_reducible assumption | with_reducible refine Bw.drew ?_ | with_reducible refine Bw.drewN ?_ _ | with_reducible refine bw_al ?_ _ | with_reducible refine Bw.then ?_ (by with_reducible assumption)))
          clear hK' K'
          try simp only [Act.put, List.setIfInBounds_toArray, List.set_cons_zero, List.set_cons_succ]
          refine wpAnyH_take (i := 12) (oi := { dst := some 170, op := Go.Op.binOp Go.BinOp.lss 3 (Go.Operand.tmp 169) (Go.Operand.const (Go.Value.int Go.IntKind.i64 0)) 3, type := 4, pos := "zsortanyfunc.go:441", after := #[{ on := 11, ground := Go.Ground.data }], guard := none }) (v := Value.bool false) rfl (by kernel_rfl) (by kernel_rfl) (by kernel_rfl) (fun _ _ _ h => h) (Or.inl ⟨by rfl, ?hy525⟩) (by assumption) ?_
          case hy525 => (intro w hSw; (try dsimp only at hSw); go_simp)
          try simp only [Act.put, List.setIfInBounds_toArray, List.set_cons_zero, List.set_cons_succ]
          refine wpAnyH_take (i := 13) (oi := { dst := some 171, op := Go.Op.unOp Go.UnOp.not 4 (Go.Operand.tmp 170), type := 4, pos := "zsortanyfunc.go:441", after := #[{ on := 12, ground := Go.Ground.data }], guard := none }) (v := Value.bool true) rfl (by kernel_rfl) (by kernel_rfl) (by kernel_rfl) (fun _ _ _ h => h) (Or.inl ⟨by rfl, ?hy526⟩) (by assumption) ?_
          case hy526 => (intro w hSw; (try dsimp only at hSw); go_simp)
          try simp only [Act.put, List.setIfInBounds_toArray, List.set_cons_zero, List.set_cons_succ]
          refine wpAnyH_done (by kernel_rfl) ?_ _
          go_wp2_with fail
          exact ⟨⟨c + 1, r, by omega, by omega, hr0, by go_num, rfl, hd.then (by (repeat' first | with_reducible exact Below.refl _ _ | with_reducible assumption | with_reducible refine Bw.drew ?_ | with_reducible refine Bw.drewN ?_ _ | with_reducible refine bw_al ?_ _ | with_reducible refine Bw.then ?_ (by with_reducible assumption))), .inr (by have h2 := Hcf.out; rw [show c + 1 - 1 = c by omega, show pp - c - m = f - m by omega]; exact Int.not_lt.1 fun h => by have := HZ.out.2 h; omega), hhi⟩, by simp [intOf]; omega⟩
      · have hsr' : s = r := by omega
        subst hsr'
        obtain ⟨en, hen⟩ : ∃ en, en = n1 - s := ⟨_, rfl⟩
        have hN1 := Hn1.out
        have hPP := Hpp.out
        have hAM := Ham.out
        have hMB := Hmb.out
        have hLA := Hla.out
        have hLB := Hlb.out
        have heni : (n1 : Int) - (s : Int) = (en : Int) := by omega
        have henw : IntKind.i64.wrap (en : Int) = (en : Int) := by simp [IntKind.wrap, IntKind.bits, IntKind.signed]; omega
        have hemb : m ≤ en := by omega
        have heb : en ≤ b := by omega
        obtain ⟨i, hi⟩ : ∃ i, i = s - a := ⟨_, rfl⟩
        obtain ⟨j, hj⟩ : ∃ j, j = en - m := ⟨_, rfl⟩
        have hil : i ≤ A.length := by omega
        have hjl : j ≤ B.length := by omega
        have hl1 : (A.take i).length = i := by rw [List.length_take]; omega
        have hl2 : (A.drop i).length = la - i := by rw [List.length_drop]; omega
        have hl3 : (B.take j).length = j := by rw [List.length_take]; omega
        have hl4 : (B.drop j).length = lb - j := by rw [List.length_drop]; omega
        have HJ : Hid (∀ C1 C2 : List En, C1.Perm (A.take i ++ B.take j) → LS C1 → C2.Perm (A.drop i ++ B.drop j) → LS C2 → LS (C1 ++ C2) ∧ (C1 ++ C2).Perm (A ++ B)) := fun C1 C2 p1 l1 p2 l2 =>
          LS_join hA hB hT hil hjl p1 p2 l1 l2 (fun h1 h2 => by
            rcases hhi with h3 | h3
            · exfalso; omega
            · rwa [← hi, show pp - s - m = j - 1 by omega] at h3) (fun h1 h2 => by
            rcases hlo with h3 | h3
            · exfalso; omega
            · rw [show s - 1 - a = i - 1 by omega, show pp - (s - 1) - m = j by omega] at h3
              exact Int.not_lt.2 h3)
        obtain ⟨tA1, tA2⟩ := hT.take_drop i j
        obtain ⟨sA1, sA2, _⟩ := LS_parts hA i
        obtain ⟨sB1, sB2, _⟩ := LS_parts hB j
        have hw0 : Acc tEn 37 wr base (.slice (some ⟨g, 0, none⟩) n cap) (P ++ (A.take i ++ (A.drop i ++ (B.take j ++ (B.drop j ++ S))))) := by
          have h1 := Hh.out.after hd
          rw [← List.append_assoc (A.take i), List.take_append_drop, ← List.append_assoc (B.take j), List.take_append_drop]
          exact h1
        have hgr0 := grown_bw hd (some g)
        generalize A.take i = X1 at *
        generalize A.drop i = X2 at *
        generalize B.take j = Y1 at *
        generalize B.drop j = Y2 at *
        have hPa := Ha.out
        have HROT : Hid (s < m ∧ m < en → Calls Tryd.prog 90 #[.slice (some ⟨g, 0, none⟩) n cap, .int .i64 s, .int .i64 m, .int .i64 en, .func (.func 32) #[] #[]] wr (RowR g base n cap wr (P ++ (X1 ++ (Y1 ++ (X2 ++ (Y2 ++ S))))))) := fun hc => by
          have h1 := rotate_any (P := P ++ X1) (X := X2) (Y := Y1) (S := Y2 ++ S) (a := s) (m := m) (b := en) (w := wr) (by rw [List.append_assoc]; exact hw0) (by rw [List.length_append]; omega) (by rw [List.length_append]; omega) (by rw [List.length_append]; omega) (by omega) (by omega) hn
          rwa [List.append_assoc] at h1
        have HNR : Hid (¬ (s < m ∧ m < en) → Acc tEn 37 wr base (.slice (some ⟨g, 0, none⟩) n cap) (P ++ (X1 ++ (Y1 ++ (X2 ++ (Y2 ++ S)))))) := fun hc => by
          have h1 := append_void X2 Y1 (by omega)
          rw [← List.append_assoc X2, h1, List.append_assoc] at hw0
          exact hw0
        have HM1 : Hid (a < s ∧ s < d → ∀ W, Acc tEn 37 W base (.slice (some ⟨g, 0, none⟩) n cap) (P ++ (X1 ++ (Y1 ++ (X2 ++ (Y2 ++ S))))) → Calls Tryd.prog 71 #[.slice (some ⟨g, 0, none⟩) n cap, .int .i64 a, .int .i64 s, .int .i64 d, .func (.func 32) #[] #[]] W (MrgR g base n cap W P (X1 ++ Y1) (X2 ++ (Y2 ++ S)))) := fun hc W hW =>
          HI.out (by omega) hW hPa (by omega) (by omega) (by omega) (by omega) sA1 sB1 tA1 hn
        have HK1 : Hid (¬ (a < s ∧ s < d) → LS (X1 ++ Y1)) := fun hc => LS_void sA1 sB1 (by omega)
        have HM2 : Hid (d < en ∧ en < b → ∀ W (C1 : List En), C1.length = X1.length + Y1.length → Acc tEn 37 W base (.slice (some ⟨g, 0, none⟩) n cap) (P ++ (C1 ++ (X2 ++ (Y2 ++ S)))) → Calls Tryd.prog 71 #[.slice (some ⟨g, 0, none⟩) n cap, .int .i64 d, .int .i64 en, .int .i64 b, .func (.func 32) #[] #[]] W (MrgR g base n cap W (P ++ C1) (X2 ++ Y2) S)) := fun hc W C1 hC hW =>
          HI.out (P := P ++ C1) (by omega) (by rw [List.append_assoc]; exact hW) (by rw [List.length_append]; omega) (by rw [List.length_append]; omega) (by rw [List.length_append]; omega) (by omega) (by omega) sA2 sB2 tA2 hn
        have HK2 : Hid (¬ (d < en ∧ en < b) → LS (X2 ++ Y2)) := fun hc => LS_void sA2 sB2 (by omega)
        have HLn : Hid (∀ C1 : List En, C1.Perm (X1 ++ Y1) → C1.length = X1.length + Y1.length) := fun C1 hp => by rw [hp.length_eq, List.length_append]
        clear hlo hhi hA hB hT Hh hw0 tA1 tA2 sA1 sA2 sB1 sB2 hl1 hl2 hl3 hl4 hi hj hil hjl hN1 hPP hAM hMB hLA hLB hPa hen q1 q2 q3 q4 q5 q6 q7 hmid
        by_cases c1 : s < m ∧ m < en
        · have z1 : (s : Int) < (m : Int) := by omega
          have z2 : (m : Int) < (en : Int) := by omega
          have HROT := Lib.hid (HROT.out c1)
          clear HNR c1
          by_cases c2 : a < s ∧ s < d
          · have z3 : (a : Int) < (s : Int) := by omega
            have z4 : (s : Int) < (d : Int) := by omega
            have HM1 := Lib.hid (HM1.out c2)
            clear HK1 c2
            go_wp2_with fail
            with_reducible refine HROT.out.mono ?_
            rintro e wA ⟨rfl, hA1, hgA⟩
            have hg1 := grown_trans hgr0 hgA
            clear HROT
            have HM1 := Lib.hid (HM1.out _ hA1)
            clear hA1
            go_wp2_with fail
            with_reducible refine HM1.out.mono ?_
            rintro e wB ⟨rfl, C1, hp1, hl1, hA2, hgB⟩
            have hg2 := grown_trans hg1 hgB
            clear HM1
            by_cases c3 : d < en ∧ en < b
            · have z5 : (d : Int) < (en : Int) := by omega
              have z6 : (en : Int) < (b : Int) := by omega
              have HM2 := Lib.hid (HM2.out c3 _ C1 (HLn.out _ hp1) hA2)
              clear HK2 c3
              go_wp2_with fail
              all_goals
                with_reducible refine HM2.out.mono ?_
                rintro e wC ⟨rfl, C2, hp2, hl2, hA3, hgC⟩
                clear HM2
                go_wp2_with fail
                go_end0
                have hj := HJ.out _ _ hp1 hl1 hp2 hl2
                exact ⟨rfl, _, hj.2, hj.1, by rw [List.append_assoc] at hA3 ⊢; exact hA3, grown_trans hg2 hgC⟩
            · have hl2 := HK2.out c3
              have hj := HJ.out _ _ hp1 hl1 (List.Perm.refl _) hl2
              have Hj := Lib.hid hj
              have HA3 := Lib.hid hA2
              clear hj hl2 HK2 HM2
              by_cases z5 : (d : Int) < (en : Int)
              · have z6 : ¬ (en : Int) < (b : Int) := by omega
                clear c3
                go_wp2_with fail
                all_goals
                  go_end0
                  exact ⟨rfl, _, Hj.out.2, Hj.out.1, by have h1 := HA3.out; simpa using h1, hg2⟩
              · clear c3
                go_wp2_with fail
                all_goals
                  go_end0
                  exact ⟨rfl, _, Hj.out.2, Hj.out.1, by have h1 := HA3.out; simpa using h1, hg2⟩
          · have hl1 := HK1.out c2
            clear HM1 HK1
            by_cases z3 : (a : Int) < (s : Int)
            · have z4 : ¬ (s : Int) < (d : Int) := by omega
              clear c2
              go_wp2_with fail
              with_reducible refine HROT.out.mono ?_
              rintro e wA ⟨rfl, hA1, hgA⟩
              have hg1 := grown_trans hgr0 hgA
              clear HROT
              have hA2 : Acc tEn 37 wA base (.slice (some ⟨g, 0, none⟩) n cap) (P ++ ((X1 ++ Y1) ++ (X2 ++ (Y2 ++ S)))) := by simpa using hA1
              clear hA1
              by_cases c3 : d < en ∧ en < b
              · have z5 : (d : Int) < (en : Int) := by omega
                have z6 : (en : Int) < (b : Int) := by omega
                have HM2 := Lib.hid (HM2.out c3 _ _ (HLn.out _ (List.Perm.refl _)) hA2)
                clear HK2 c3
                go_wp2_with fail
                all_goals
                  with_reducible refine HM2.out.mono ?_
                  rintro e wC ⟨rfl, C2, hp2, hl2, hA3, hgC⟩
                  clear HM2
                  go_wp2_with fail
                  go_end0
                  have hj := HJ.out _ _ (List.Perm.refl _) hl1 hp2 hl2
                  exact ⟨rfl, _, hj.2, hj.1, by rw [List.append_assoc] at hA3 ⊢; exact hA3, grown_trans hg1 hgC⟩
              · have hl2 := HK2.out c3
                have hj := HJ.out _ _ (List.Perm.refl _) hl1 (List.Perm.refl _) hl2
                have Hj := Lib.hid hj
                have HA3 := Lib.hid hA2
                clear hj hl2 HK2 HM2
                by_cases z5 : (d : Int) < (en : Int)
                · have z6 : ¬ (en : Int) < (b : Int) := by omega
                  clear c3
                  go_wp2_with fail
                  all_goals
                    go_end0
                    exact ⟨rfl, _, Hj.out.2, Hj.out.1, by have h1 := HA3.out; simpa using h1, hg1⟩
                · clear c3
                  go_wp2_with fail
                  all_goals
                    go_end0
                    exact ⟨rfl, _, Hj.out.2, Hj.out.1, by have h1 := HA3.out; simpa using h1, hg1⟩
            · clear c2
              go_wp2_with fail
              with_reducible refine HROT.out.mono ?_
              rintro e wA ⟨rfl, hA1, hgA⟩
              have hg1 := grown_trans hgr0 hgA
              clear HROT
              have hA2 : Acc tEn 37 wA base (.slice (some ⟨g, 0, none⟩) n cap) (P ++ ((X1 ++ Y1) ++ (X2 ++ (Y2 ++ S)))) := by simpa using hA1
              clear hA1
              by_cases c3 : d < en ∧ en < b
              · have z5 : (d : Int) < (en : Int) := by omega
                have z6 : (en : Int) < (b : Int) := by omega
                have HM2 := Lib.hid (HM2.out c3 _ _ (HLn.out _ (List.Perm.refl _)) hA2)
                clear HK2 c3
                go_wp2_with fail
                all_goals
                  with_reducible refine HM2.out.mono ?_
                  rintro e wC ⟨rfl, C2, hp2, hl2, hA3, hgC⟩
                  clear HM2
                  go_wp2_with fail
                  go_end0
                  have hj := HJ.out _ _ (List.Perm.refl _) hl1 hp2 hl2
                  exact ⟨rfl, _, hj.2, hj.1, by rw [List.append_assoc] at hA3 ⊢; exact hA3, grown_trans hg1 hgC⟩
              · have hl2 := HK2.out c3
                have hj := HJ.out _ _ (List.Perm.refl _) hl1 (List.Perm.refl _) hl2
                have Hj := Lib.hid hj
                have HA3 := Lib.hid hA2
                clear hj hl2 HK2 HM2
                by_cases z5 : (d : Int) < (en : Int)
                · have z6 : ¬ (en : Int) < (b : Int) := by omega
                  clear c3
                  go_wp2_with fail
                  all_goals
                    go_end0
                    exact ⟨rfl, _, Hj.out.2, Hj.out.1, by have h1 := HA3.out; simpa using h1, hg1⟩
                · clear c3
                  go_wp2_with fail
                  all_goals
                    go_end0
                    exact ⟨rfl, _, Hj.out.2, Hj.out.1, by have h1 := HA3.out; simpa using h1, hg1⟩
        · have HA1 := Lib.hid (HNR.out c1)
          clear HROT HNR
          by_cases z1 : (s : Int) < (m : Int)
          · have z2 : ¬ (m : Int) < (en : Int) := by omega
            clear c1
            by_cases c2 : a < s ∧ s < d
            · have z3 : (a : Int) < (s : Int) := by omega
              have z4 : (s : Int) < (d : Int) := by omega
              have HM1 := Lib.hid (HM1.out c2)
              clear HK1 c2
              go_wp2_with fail
              with_reducible refine (HM1.out _ HA1.out).mono ?_
              clear HA1
              rintro e wB ⟨rfl, C1, hp1, hl1, hA2, hgB⟩
              have hg2 := grown_trans hgr0 hgB
              clear HM1
              by_cases c3 : d < en ∧ en < b
              · have z5 : (d : Int) < (en : Int) := by omega
                have z6 : (en : Int) < (b : Int) := by omega
                have HM2 := Lib.hid (HM2.out c3 _ C1 (HLn.out _ hp1) hA2)
                clear HK2 c3
                go_wp2_with fail
                all_goals
                  with_reducible refine HM2.out.mono ?_
                  rintro e wC ⟨rfl, C2, hp2, hl2, hA3, hgC⟩
                  clear HM2
                  go_wp2_with fail
                  go_end0
                  have hj := HJ.out _ _ hp1 hl1 hp2 hl2
                  exact ⟨rfl, _, hj.2, hj.1, by rw [List.append_assoc] at hA3 ⊢; exact hA3, grown_trans hg2 hgC⟩
              · have hl2 := HK2.out c3
                have hj := HJ.out _ _ hp1 hl1 (List.Perm.refl _) hl2
                have Hj := Lib.hid hj
                have HA3 := Lib.hid hA2
                clear hj hl2 HK2 HM2
                by_cases z5 : (d : Int) < (en : Int)
                · have z6 : ¬ (en : Int) < (b : Int) := by omega
                  clear c3
                  go_wp2_with fail
                  all_goals
                    go_end0
                    exact ⟨rfl, _, Hj.out.2, Hj.out.1, by have h1 := HA3.out; simpa using h1, hg2⟩
                · clear c3
                  go_wp2_with fail
                  all_goals
                    go_end0
                    exact ⟨rfl, _, Hj.out.2, Hj.out.1, by have h1 := HA3.out; simpa using h1, hg2⟩
            · have hl1 := HK1.out c2
              clear HM1 HK1
              by_cases z3 : (a : Int) < (s : Int)
              · have z4 : ¬ (s : Int) < (d : Int) := by omega
                clear c2
                have hA2 : Acc tEn 37 wr base (.slice (some ⟨g, 0, none⟩) n cap) (P ++ ((X1 ++ Y1) ++ (X2 ++ (Y2 ++ S)))) := by have h1 := HA1.out; simpa using h1
                clear HA1
                by_cases c3 : d < en ∧ en < b
                · have z5 : (d : Int) < (en : Int) := by omega
                  have z6 : (en : Int) < (b : Int) := by omega
                  have HM2 := Lib.hid (HM2.out c3 _ _ (HLn.out _ (List.Perm.refl _)) hA2)
                  clear HK2 c3
                  go_wp2_with fail
                  all_goals
                    with_reducible refine HM2.out.mono ?_
                    rintro e wC ⟨rfl, C2, hp2, hl2, hA3, hgC⟩
                    clear HM2
                    go_wp2_with fail
                    go_end0
                    have hj := HJ.out _ _ (List.Perm.refl _) hl1 hp2 hl2
                    exact ⟨rfl, _, hj.2, hj.1, by rw [List.append_assoc] at hA3 ⊢; exact hA3, grown_trans hgr0 hgC⟩
                · have hl2 := HK2.out c3
                  have hj := HJ.out _ _ (List.Perm.refl _) hl1 (List.Perm.refl _) hl2
                  have Hj := Lib.hid hj
                  have HA3 := Lib.hid hA2
                  clear hj hl2 HK2 HM2
                  by_cases z5 : (d : Int) < (en : Int)
                  · have z6 : ¬ (en : Int) < (b : Int) := by omega
                    clear c3
                    go_wp2_with fail
                    all_goals
                      go_end0
                      exact ⟨rfl, _, Hj.out.2, Hj.out.1, by have h1 := HA3.out; simpa using h1, hgr0⟩
                  · clear c3
                    go_wp2_with fail
                    all_goals
                      go_end0
                      exact ⟨rfl, _, Hj.out.2, Hj.out.1, by have h1 := HA3.out; simpa using h1, hgr0⟩
              · clear c2
                have hA2 : Acc tEn 37 wr base (.slice (some ⟨g, 0, none⟩) n cap) (P ++ ((X1 ++ Y1) ++ (X2 ++ (Y2 ++ S)))) := by have h1 := HA1.out; simpa using h1
                clear HA1
                by_cases c3 : d < en ∧ en < b
                · have z5 : (d : Int) < (en : Int) := by omega
                  have z6 : (en : Int) < (b : Int) := by omega
                  have HM2 := Lib.hid (HM2.out c3 _ _ (HLn.out _ (List.Perm.refl _)) hA2)
                  clear HK2 c3
                  go_wp2_with fail
                  all_goals
                    with_reducible refine HM2.out.mono ?_
                    rintro e wC ⟨rfl, C2, hp2, hl2, hA3, hgC⟩
                    clear HM2
                    go_wp2_with fail
                    go_end0
                    have hj := HJ.out _ _ (List.Perm.refl _) hl1 hp2 hl2
                    exact ⟨rfl, _, hj.2, hj.1, by rw [List.append_assoc] at hA3 ⊢; exact hA3, grown_trans hgr0 hgC⟩
                · have hl2 := HK2.out c3
                  have hj := HJ.out _ _ (List.Perm.refl _) hl1 (List.Perm.refl _) hl2
                  have Hj := Lib.hid hj
                  have HA3 := Lib.hid hA2
                  clear hj hl2 HK2 HM2
                  by_cases z5 : (d : Int) < (en : Int)
                  · have z6 : ¬ (en : Int) < (b : Int) := by omega
                    clear c3
                    go_wp2_with fail
                    all_goals
                      go_end0
                      exact ⟨rfl, _, Hj.out.2, Hj.out.1, by have h1 := HA3.out; simpa using h1, hgr0⟩
                  · clear c3
                    go_wp2_with fail
                    all_goals
                      go_end0
                      exact ⟨rfl, _, Hj.out.2, Hj.out.1, by have h1 := HA3.out; simpa using h1, hgr0⟩
          · clear c1
            by_cases c2 : a < s ∧ s < d
            · have z3 : (a : Int) < (s : Int) := by omega
              have z4 : (s : Int) < (d : Int) := by omega
              have HM1 := Lib.hid (HM1.out c2)
              clear HK1 c2
              go_wp2_with fail
              with_reducible refine (HM1.out _ HA1.out).mono ?_
              clear HA1
              rintro e wB ⟨rfl, C1, hp1, hl1, hA2, hgB⟩
              have hg2 := grown_trans hgr0 hgB
              clear HM1
              by_cases c3 : d < en ∧ en < b
              · have z5 : (d : Int) < (en : Int) := by omega
                have z6 : (en : Int) < (b : Int) := by omega
                have HM2 := Lib.hid (HM2.out c3 _ C1 (HLn.out _ hp1) hA2)
                clear HK2 c3
                go_wp2_with fail
                all_goals
                  with_reducible refine HM2.out.mono ?_
                  rintro e wC ⟨rfl, C2, hp2, hl2, hA3, hgC⟩
                  clear HM2
                  go_wp2_with fail
                  go_end0
                  have hj := HJ.out _ _ hp1 hl1 hp2 hl2
                  exact ⟨rfl, _, hj.2, hj.1, by rw [List.append_assoc] at hA3 ⊢; exact hA3, grown_trans hg2 hgC⟩
              · have hl2 := HK2.out c3
                have hj := HJ.out _ _ hp1 hl1 (List.Perm.refl _) hl2
                have Hj := Lib.hid hj
                have HA3 := Lib.hid hA2
                clear hj hl2 HK2 HM2
                by_cases z5 : (d : Int) < (en : Int)
                · have z6 : ¬ (en : Int) < (b : Int) := by omega
                  clear c3
                  go_wp2_with fail
                  all_goals
                    go_end0
                    exact ⟨rfl, _, Hj.out.2, Hj.out.1, by have h1 := HA3.out; simpa using h1, hg2⟩
                · clear c3
                  go_wp2_with fail
                  all_goals
                    go_end0
                    exact ⟨rfl, _, Hj.out.2, Hj.out.1, by have h1 := HA3.out; simpa using h1, hg2⟩
            · have hl1 := HK1.out c2
              clear HM1 HK1
              by_cases z3 : (a : Int) < (s : Int)
              · have z4 : ¬ (s : Int) < (d : Int) := by omega
                clear c2
                have hA2 : Acc tEn 37 wr base (.slice (some ⟨g, 0, none⟩) n cap) (P ++ ((X1 ++ Y1) ++ (X2 ++ (Y2 ++ S)))) := by have h1 := HA1.out; simpa using h1
                clear HA1
                by_cases c3 : d < en ∧ en < b
                · have z5 : (d : Int) < (en : Int) := by omega
                  have z6 : (en : Int) < (b : Int) := by omega
                  have HM2 := Lib.hid (HM2.out c3 _ _ (HLn.out _ (List.Perm.refl _)) hA2)
                  clear HK2 c3
                  go_wp2_with fail
                  all_goals
                    with_reducible refine HM2.out.mono ?_
                    rintro e wC ⟨rfl, C2, hp2, hl2, hA3, hgC⟩
                    clear HM2
                    go_wp2_with fail
                    go_end0
                    have hj := HJ.out _ _ (List.Perm.refl _) hl1 hp2 hl2
                    exact ⟨rfl, _, hj.2, hj.1, by rw [List.append_assoc] at hA3 ⊢; exact hA3, grown_trans hgr0 hgC⟩
                · have hl2 := HK2.out c3
                  have hj := HJ.out _ _ (List.Perm.refl _) hl1 (List.Perm.refl _) hl2
                  have Hj := Lib.hid hj
                  have HA3 := Lib.hid hA2
                  clear hj hl2 HK2 HM2
                  by_cases z5 : (d : Int) < (en : Int)
                  · have z6 : ¬ (en : Int) < (b : Int) := by omega
                    clear c3
                    go_wp2_with fail
                    all_goals
                      go_end0
                      exact ⟨rfl, _, Hj.out.2, Hj.out.1, by have h1 := HA3.out; simpa using h1, hgr0⟩
                  · clear c3
                    go_wp2_with fail
                    all_goals
                      go_end0
                      exact ⟨rfl, _, Hj.out.2, Hj.out.1, by have h1 := HA3.out; simpa using h1, hgr0⟩
              · clear c2
                have hA2 : Acc tEn 37 wr base (.slice (some ⟨g, 0, none⟩) n cap) (P ++ ((X1 ++ Y1) ++ (X2 ++ (Y2 ++ S)))) := by have h1 := HA1.out; simpa using h1
                clear HA1
                by_cases c3 : d < en ∧ en < b
                · have z5 : (d : Int) < (en : Int) := by omega
                  have z6 : (en : Int) < (b : Int) := by omega
                  have HM2 := Lib.hid (HM2.out c3 _ _ (HLn.out _ (List.Perm.refl _)) hA2)
                  clear HK2 c3
                  go_wp2_with fail
                  all_goals
                    with_reducible refine HM2.out.mono ?_
                    rintro e wC ⟨rfl, C2, hp2, hl2, hA3, hgC⟩
                    clear HM2
                    go_wp2_with fail
                    go_end0
                    have hj := HJ.out _ _ (List.Perm.refl _) hl1 hp2 hl2
                    exact ⟨rfl, _, hj.2, hj.1, by rw [List.append_assoc] at hA3 ⊢; exact hA3, grown_trans hgr0 hgC⟩
                · have hl2 := HK2.out c3
                  have hj := HJ.out _ _ (List.Perm.refl _) hl1 (List.Perm.refl _) hl2
                  have Hj := Lib.hid hj
                  have HA3 := Lib.hid hA2
                  clear hj hl2 HK2 HM2
                  by_cases z5 : (d : Int) < (en : Int)
                  · have z6 : ¬ (en : Int) < (b : Int) := by omega
                    clear c3
                    go_wp2_with fail
                    all_goals
                      go_end0
                      exact ⟨rfl, _, Hj.out.2, Hj.out.1, by have h1 := HA3.out; simpa using h1, hgr0⟩
                  · clear c3
                    go_wp2_with fail
                    all_goals
                      go_end0
                      exact ⟨rfl, _, Hj.out.2, Hj.out.1, by have h1 := HA3.out; simpa using h1, hgr0⟩
  · obtain ⟨s0, hs0⟩ : ∃ s0, s0 = a := ⟨_, rfl⟩
    obtain ⟨r0, hr0⟩ : ∃ r0, r0 = m := ⟨_, rfl⟩
    have hgti : ¬ (d : Int) < (m : Int) := by omega
    have HR0 : Hid (a ≤ s0 ∧ s0 ≤ r0 ∧ r0 ≤ m ∧ r0 ≤ d ∧ n1 ≤ s0 + b ∧ (r0 = m ∨ r0 = d) ∧ (s0 = a ∨ s0 + b = n1)) := by have := Hn1.out; have := Hmb.out; have := Ham.out; exact ⟨by omega, by omega, by omega, by omega, by omega, .inl hr0, .inl hs0⟩
    have Hr0 := Lib.hid hr0
    have Hs0 := Lib.hid hs0
    clear hs0 hr0
    go_enter Tryd.func71, Tryd.ntmps71
    go_wp2_with fail
    go_loopw [20, 21] (fun i j wr => ∃ s r : Nat, s0 ≤ s ∧ s ≤ r ∧ r ≤ r0 ∧ i = .int .i64 s ∧ j = .int .i64 r ∧ Bw w wr ∧ Hid (s = s0 ∨ cA B (pp - (s - 1) - m) ≤ cA A (s - 1 - a)) ∧ Hid (r = r0 ∨ cA A (r - a) < cA B (pp - r - m))) (fun i j _ => (intOf j).toNat - (intOf i).toNat)
    case atStart => exact ⟨s0, r0, Nat.le_refl _, HR0.out.2.1, Nat.le_refl _, by rw [Hs0.out], by rw [Hr0.out], Below.refl _ _, .inl rfl, .inl rfl⟩
    case round =>
      obtain ⟨s, r, hs0, hsr, hr0, rfl, rfl, hd, hlo, hhi⟩ := hrel
      obtain ⟨q1, q2, q3, q4, q5, q6, q7⟩ := HR0.out
      by_cases hlt : s < r
      · have hmidc := mid_eq (p := s) (q := r) (by omega) (by omega)
        obtain ⟨c, hme⟩ : ∃ c, c = (s + r) / 2 := ⟨_, rfl⟩
        have hm1 : s ≤ c := by omega
        have hm2 : c < r := by omega
        rw [← hme] at hmidc
        have hmid2 : ((s : Int) + (r : Int)) / 2 = (c : Int) := by omega
        clear hme
        obtain ⟨f, hfe⟩ : ∃ f, f = pp - c := ⟨_, rfl⟩
        have hcf : c + f = pp := by have := Hpp.out; have := Hn1.out; omega
        have hfm : m ≤ f := by have := Hpp.out; have := Hn1.out; omega
        have hfb : f < b := by have := Hpp.out; have := Hn1.out; omega
        have hfi : (pp : Int) - (c : Int) = (f : Int) := by omega
        have hfw : IntKind.i64.wrap (f : Int) = (f : Int) := by simp [IntKind.wrap, IntKind.bits, IntKind.signed]; omega
        have Hcf := Lib.hid hcf
        have hAc := Hh.out.after hd
        have hcn : c < n := by omega
        have hfn : f < n := by omega
        obtain ⟨y, u1, hy, hys, hyc, hu1, e0, e1, e2⟩ := hAc.en' (k := f) hfn
        obtain ⟨x, u2, hx, hxs, hxc, hu2, f0, f1, f2⟩ := hAc.en' (k := c) hcn
        obtain ⟨A1, n1', k1, rfl, _, _, _⟩ := hu1.form'
        obtain ⟨A2, n2, k2, rfl, _, _, _⟩ := hu2.form'
        have hxA : cA A (c - a) = x.2.2 := cA_of (at_seg P A (B ++ S) (i := c - a) (by rw [← Ha.out]; omega) (by have := Hla.out; have := Ham.out; omega) hx.out)
        have hyB : cA B (f - m) = y.2.2 := by
          have h1 := hy.out
          rw [← List.append_assoc] at h1
          exact cA_of (at_seg (P ++ A) B S (i := f - m) (by rw [List.length_append, ← Hm.out]; omega) (by have := Hlb.out; have := Hmb.out; omega) h1)
        have HO2 := likes_at (u1 := .slice A1 n1' k1) (s1 := .string y.2.1) (c1 := y.2.2) (u2 := .slice A2 n2 k2) (s2 := .string x.2.1) (c2 := x.2.2) wr
        have HZ : Hid (cmpI x.2.2 y.2.2 < 0 ↔ cA A (c - a) < cA B (f - m)) := by show _ ↔ _; rw [hxA, hyB]; exact cmpI_neg
        have K0 : ∀ W, Bw wr W → (W.cell? ⟨g, f * 3, none⟩ = some (.slice A1 n1' k1) ∧ W.cell? ⟨g, f * 3 + 1, none⟩ = some (.string y.2.1) ∧ W.cell? ⟨g, f * 3 + 2, none⟩ = some (.int .i64 y.2.2) ∧ W.cell? ⟨g, c * 3, none⟩ = some (.slice A2 n2 k2) ∧ W.cell? ⟨g, c * 3 + 1, none⟩ = some (.string x.2.1) ∧ W.cell? ⟨g, c * 3 + 2, none⟩ = some (.int .i64 x.2.2)) := fun W kk =>
          ⟨bw_cell kk e0, bw_cell kk e1, bw_cell kk e2, bw_cell kk f0, bw_cell kk f1, bw_cell kk f2⟩
        generalize cmpI x.2.2 y.2.2 = z at *
        clear hAc hu1 hu2 hy hx e0 e1 e2 f0 f1 f2 hxA hyB hyc hys hxc hxs hA hB hT hcf hfe hmid
        by_cases hz : z < 0
        · have hzd := decide_eq_true hz
          go_wp2_with fail
          refine wp_region_held_drew (S := fun u => u.cell? ⟨g, f * 3, none⟩ = some (.slice A1 n1' k1) ∧ u.cell? ⟨g, f * 3 + 1, none⟩ = some (.string y.2.1) ∧ u.cell? ⟨g, f * 3 + 2, none⟩ = some (.int .i64 y.2.2) ∧ u.cell? ⟨g, c * 3, none⟩ = some (.slice A2 n2 k2) ∧ u.cell? ⟨g, c * 3 + 1, none⟩ = some (.string x.2.1) ∧ u.cell? ⟨g, c * 3 + 2, none⟩ = some (.int .i64 x.2.2)) (by kernel_rfl) ?_ (fun hHeld => ?_)
          · exact K0 _ (Bw.drew (Below.refl _ _))
          refine wpAnyH_take (i := 0) (oi := { dst := some 158, op := Go.Op.move (Go.Operand.tmp 4), type := 52, pos := "zsortanyfunc.go:441", after := #[], guard := none }) (v := ?v1) rfl (by kernel_rfl) (by kernel_rfl) (by kernel_rfl) (fun _ _ _ h => h) (Or.inl ⟨by rfl, ?hy1⟩) (by assumption) ?_
          case hy1 => (intro w hSw; (try dsimp only at hSw); go_simp; try with_reducible rfl)
          try simp only [Act.put, List.setIfInBounds_toArray, List.set_cons_zero, List.set_cons_succ]
          refine wpAnyH_take (i := 1) (oi := { dst := some 159, op := Go.Op.move (Go.Operand.tmp 0), type := 28, pos := "zsortanyfunc.go:441", after := #[], guard := none }) (v := ?v2) rfl (by kernel_rfl) (by kernel_rfl) (by kernel_rfl) (fun _ _ _ h => h) (Or.inl ⟨by rfl, ?hy2⟩) (by assumption) ?_
          case hy2 => (intro w hSw; (try dsimp only at hSw); go_simp; try with_reducible rfl)
          try simp only [Act.put, List.setIfInBounds_toArray, List.set_cons_zero, List.set_cons_succ]
          refine wpAnyH_take (i := 2) (oi := { dst := some 160, op := Go.Op.move (Go.Operand.tmp 22), type := 3, pos := "zsortanyfunc.go:441", after := #[], guard := none }) (v := ?v3) rfl (by kernel_rfl) (by kernel_rfl) (by kernel_rfl) (fun _ _ _ h => h) (Or.inl ⟨by rfl, ?hy3⟩) (by assumption) ?_
          case hy3 => (intro w hSw; (try dsimp only at hSw); go_simp; try with_reducible rfl)
          try simp only [Act.put, List.setIfInBounds_toArray, List.set_cons_zero, List.set_cons_succ]
          refine wpAnyH_take (i := 3) (oi := { dst := some 161, op := Go.Op.move (Go.Operand.tmp 23), type := 3, pos := "zsortanyfunc.go:441", after := #[], guard := none }) (v := ?v4) rfl (by kernel_rfl) (by kernel_rfl) (by kernel_rfl) (fun _ _ _ h => h) (Or.inl ⟨by rfl, ?hy4⟩) (by assumption) ?_
          case hy4 => (intro w hSw; (try dsimp only at hSw); go_simp; try with_reducible rfl)
          try simp only [Act.put, List.setIfInBounds_toArray, List.set_cons_zero, List.set_cons_succ]
          refine wpAnyH_take (i := 4) (oi := { dst := some 162, op := Go.Op.binOp Go.BinOp.sub 3 (Go.Operand.tmp 160) (Go.Operand.tmp 161) 3, type := 3, pos := "zsortanyfunc.go:441", after := #[{ on := 2, ground := Go.Ground.data }, { on := 3, ground := Go.Ground.data }], guard := none }) (v := Value.int .i64 (f : Int)) rfl (by kernel_rfl) (by kernel_rfl) (by kernel_rfl) (fun _ _ _ h => h) (Or.inl ⟨by rfl, ?hy5⟩) (by assumption) ?_
          case hy5 => (intro w hSw; (try dsimp only at hSw); go_simp)
          try simp only [Act.put, List.setIfInBounds_toArray, List.set_cons_zero, List.set_cons_succ]
          refine wpAnyH_take (i := 5) (oi := { dst := some 163, op := Go.Op.indexAddr 28 (Go.Operand.tmp 159) (Go.Operand.tmp 162), type := 0, pos := "zsortanyfunc.go:441", after := #[{ on := 1, ground := Go.Ground.data }, { on := 4, ground := Go.Ground.data }], guard := none }) (v := ?v6) rfl (by kernel_rfl) (by kernel_rfl) (by kernel_rfl) (fun _ _ _ h => h) (Or.inl ⟨by rfl, ?hy6⟩) (by assumption) ?_
          case hy6 => (intro w hSw; (try dsimp only at hSw); go_simp; try with_reducible rfl)
          try simp only [Act.put, List.setIfInBounds_toArray, List.set_cons_zero, List.set_cons_succ]
          refine wpAnyH_take (i := 6) (oi := { dst := some 164, op := Go.Op.load 37 (Go.Operand.tmp 163), type := 37, pos := "zsortanyfunc.go:441", after := #[{ on := 5, ground := Go.Ground.data }], guard := none }) (v := ?v7) rfl (by kernel_rfl) (by kernel_rfl) (by kernel_rfl) (fun _ _ _ h => h) (Or.inl ⟨by rfl, ?hy7⟩) (by assumption) ?_
          case hy7 => (intro w hSw; (try dsimp only at hSw); go_simp; try with_reducible rfl)
          try simp only [Act.put, List.setIfInBounds_toArray, List.set_cons_zero, List.set_cons_succ]
          refine wpAnyH_take (i := 7) (oi := { dst := some 165, op := Go.Op.move (Go.Operand.tmp 0), type := 28, pos := "zsortanyfunc.go:441", after := #[], guard := none }) (v := ?v8) rfl (by kernel_rfl) (by kernel_rfl) (by kernel_rfl) (fun _ _ _ h => h) (Or.inl ⟨by rfl, ?hy8⟩) (by assumption) ?_
          case hy8 => (intro w hSw; (try dsimp only at hSw); go_simp; try with_reducible rfl)
          try simp only [Act.put, List.setIfInBounds_toArray, List.set_cons_zero, List.set_cons_succ]
          refine wpAnyH_take (i := 8) (oi := { dst := some 166, op := Go.Op.move (Go.Operand.tmp 23), type := 3, pos := "zsortanyfunc.go:441", after := #[], guard := none }) (v := ?v9) rfl (by kernel_rfl) (by kernel_rfl) (by kernel_rfl) (fun _ _ _ h => h) (Or.inl ⟨by rfl, ?hy9⟩) (by assumption) ?_
          case hy9 => (intro w hSw; (try dsimp only at hSw); go_simp; try with_reducible rfl)
          try simp only [Act.put, List.setIfInBounds_toArray, List.set_cons_zero, List.set_cons_succ]
          refine wpAnyH_take (i := 9) (oi := { dst := some 167, op := Go.Op.indexAddr 28 (Go.Operand.tmp 165) (Go.Operand.tmp 166), type := 0, pos := "zsortanyfunc.go:441", after := #[{ on := 7, ground := Go.Ground.data }, { on := 8, ground := Go.Ground.data }], guard := none }) (v := ?v10) rfl (by kernel_rfl) (by kernel_rfl) (by kernel_rfl) (fun _ _ _ h => h) (Or.inl ⟨by rfl, ?hy10⟩) (by assumption) ?_
          case hy10 => (intro w hSw; (try dsimp only at hSw); go_simp; try with_reducible rfl)
          try simp only [Act.put, List.setIfInBounds_toArray, List.set_cons_zero, List.set_cons_succ]
          refine wpAnyH_take (i := 10) (oi := { dst := some 168, op := Go.Op.load 37 (Go.Operand.tmp 167), type := 37, pos := "zsortanyfunc.go:441", after := #[{ on := 9, ground := Go.Ground.data }], guard := none }) (v := ?v11) rfl (by kernel_rfl) (by kernel_rfl) (by kernel_rfl) (fun _ _ _ h => h) (Or.inl ⟨by rfl, ?hy11⟩) (by assumption) ?_
          case hy11 => (intro w hSw; (try dsimp only at hSw); go_simp; try with_reducible rfl)
          try simp only [Act.put, List.setIfInBounds_toArray, List.set_cons_zero, List.set_cons_succ]
          refine wpAnyH_ready (rs := [11]) (by kernel_rfl) (by simp) ?_
          refine (AllReadyH.cons (i := 11) (o := { dst := some 169, op := Go.Op.call { callee := Go.Callee.value (Go.Operand.tmp 158), args := #[Go.Operand.tmp 164, Go.Operand.tmp 168], argTypes := #[37, 37] }, type := 3, pos := "zsortanyfunc.go:441", after := #[{ on := 0, ground := Go.Ground.data }, { on := 6, ground := Go.Ground.data }, { on := 10, ground := Go.Ground.data }], guard := none }) rfl (fun K' hK' => ?_) AllReadyH.nil)
          go_simp
          with_reducible refine (HO2.out _ (by (repeat' first | with_reducible exact Below.refl _ _ | with_reducible assumption | with_reducible refine Bw.drew ?_ | with_reducible refine Bw.drewN ?_ _ | with_reducible refine bw_al ?_ _ | with_reducible refine Bw.then ?_ (by with_reducible assumption)))).mono ?_
          rintro e wA ⟨rfl, hbA⟩
          try dsimp only
          refine hK'.out _ _ ?_ (fun hHeld => ?_)
          · exact K0 _ (by (repeat' first | with_reducible exact Below.refl _ _ | with_reducible assumption | with_reducible refine Bw.drew ?_ | with_reducible refine Bw.drewN ?_ _ | with_reducible refine bw_al ?_ _ | with_reducible refine Bw.then ?_ (by with_reducible assumption)))
          clear hK' K'
          try simp only [Act.put, List.setIfInBounds_toArray, List.set_cons_zero, List.set_cons_succ]
          refine wpAnyH_take (i := 12) (oi := { dst := some 170, op := Go.Op.binOp Go.BinOp.lss 3 (Go.Operand.tmp 169) (Go.Operand.const (Go.Value.int Go.IntKind.i64 0)) 3, type := 4, pos := "zsortanyfunc.go:441", after := #[{ on := 11, ground := Go.Ground.data }], guard := none }) (v := Value.bool true) rfl (by kernel_rfl) (by kernel_rfl) (by kernel_rfl) (fun _ _ _ h => h) (Or.inl ⟨by rfl, ?hy12⟩) (by assumption) ?_
          case hy12 => (intro w hSw; (try dsimp only at hSw); go_simp)
          try simp only [Act.put, List.setIfInBounds_toArray, List.set_cons_zero, List.set_cons_succ]
          refine wpAnyH_take (i := 13) (oi := { dst := some 171, op := Go.Op.unOp Go.UnOp.not 4 (Go.Operand.tmp 170), type := 4, pos := "zsortanyfunc.go:441", after := #[{ on := 12, ground := Go.Ground.data }], guard := none }) (v := Value.bool false) rfl (by kernel_rfl) (by kernel_rfl) (by kernel_rfl) (fun _ _ _ h => h) (Or.inl ⟨by rfl, ?hy13⟩) (by assumption) ?_
          case hy13 => (intro w hSw; (try dsimp only at hSw); go_simp)
          try simp only [Act.put, List.setIfInBounds_toArray, List.set_cons_zero, List.set_cons_succ]
          refine wpAnyH_done (by kernel_rfl) ?_ _
          go_wp2_with fail
          exact ⟨⟨s, c, hs0, hm1, by omega, rfl, rfl, hd.then (by (repeat' first | with_reducible exact Below.refl _ _ | with_reducible assumption | with_reducible refine Bw.drew ?_ | with_reducible refine Bw.drewN ?_ _ | with_reducible refine bw_al ?_ _ | with_reducible refine Bw.then ?_ (by with_reducible assumption))), hlo, .inr (by have h1 := HZ.out.1 hz; have h2 := Hcf.out; rwa [show pp - c - m = f - m by omega])⟩, by simp [intOf]; omega⟩
        · have hzd := decide_eq_false hz
          go_wp2_with fail
          refine wp_region_held_drew (S := fun u => u.cell? ⟨g, f * 3, none⟩ = some (.slice A1 n1' k1) ∧ u.cell? ⟨g, f * 3 + 1, none⟩ = some (.string y.2.1) ∧ u.cell? ⟨g, f * 3 + 2, none⟩ = some (.int .i64 y.2.2) ∧ u.cell? ⟨g, c * 3, none⟩ = some (.slice A2 n2 k2) ∧ u.cell? ⟨g, c * 3 + 1, none⟩ = some (.string x.2.1) ∧ u.cell? ⟨g, c * 3 + 2, none⟩ = some (.int .i64 x.2.2)) (by kernel_rfl) ?_ (fun hHeld => ?_)
          · exact K0 _ (Bw.drew (Below.refl _ _))
          refine wpAnyH_take (i := 0) (oi := { dst := some 158, op := Go.Op.move (Go.Operand.tmp 4), type := 52, pos := "zsortanyfunc.go:441", after := #[], guard := none }) (v := ?v14) rfl (by kernel_rfl) (by kernel_rfl) (by kernel_rfl) (fun _ _ _ h => h) (Or.inl ⟨by rfl, ?hy14⟩) (by assumption) ?_
          case hy14 => (intro w hSw; (try dsimp only at hSw); go_simp; try with_reducible rfl)
          try simp only [Act.put, List.setIfInBounds_toArray, List.set_cons_zero, List.set_cons_succ]
          refine wpAnyH_take (i := 1) (oi := { dst := some 159, op := Go.Op.move (Go.Operand.tmp 0), type := 28, pos := "zsortanyfunc.go:441", after := #[], guard := none }) (v := ?v15) rfl (by kernel_rfl) (by kernel_rfl) (by kernel_rfl) (fun _ _ _ h => h) (Or.inl ⟨by rfl, ?hy15⟩) (by assumption) ?_
          case hy15 => (intro w hSw; (try dsimp only at hSw); go_simp; try with_reducible rfl)
          try simp only [Act.put, List.setIfInBounds_toArray, List.set_cons_zero, List.set_cons_succ]
          refine wpAnyH_take (i := 2) (oi := { dst := some 160, op := Go.Op.move (Go.Operand.tmp 22), type := 3, pos := "zsortanyfunc.go:441", after := #[], guard := none }) (v := ?v16) rfl (by kernel_rfl) (by kernel_rfl) (by kernel_rfl) (fun _ _ _ h => h) (Or.inl ⟨by rfl, ?hy16⟩) (by assumption) ?_
          case hy16 => (intro w hSw; (try dsimp only at hSw); go_simp; try with_reducible rfl)
          try simp only [Act.put, List.setIfInBounds_toArray, List.set_cons_zero, List.set_cons_succ]
          refine wpAnyH_take (i := 3) (oi := { dst := some 161, op := Go.Op.move (Go.Operand.tmp 23), type := 3, pos := "zsortanyfunc.go:441", after := #[], guard := none }) (v := ?v17) rfl (by kernel_rfl) (by kernel_rfl) (by kernel_rfl) (fun _ _ _ h => h) (Or.inl ⟨by rfl, ?hy17⟩) (by assumption) ?_
          case hy17 => (intro w hSw; (try dsimp only at hSw); go_simp; try with_reducible rfl)
          try simp only [Act.put, List.setIfInBounds_toArray, List.set_cons_zero, List.set_cons_succ]
          refine wpAnyH_take (i := 4) (oi := { dst := some 162, op := Go.Op.binOp Go.BinOp.sub 3 (Go.Operand.tmp 160) (Go.Operand.tmp 161) 3, type := 3, pos := "zsortanyfunc.go:441", after := #[{ on := 2, ground := Go.Ground.data }, { on := 3, ground := Go.Ground.data }], guard := none }) (v := Value.int .i64 (f : Int)) rfl (by kernel_rfl) (by kernel_rfl) (by kernel_rfl) (fun _ _ _ h => h) (Or.inl ⟨by rfl, ?hy18⟩) (by assumption) ?_
          case hy18 => (intro w hSw; (try dsimp only at hSw); go_simp)
          try simp only [Act.put, List.setIfInBounds_toArray, List.set_cons_zero, List.set_cons_succ]
          refine wpAnyH_take (i := 5) (oi := { dst := some 163, op := Go.Op.indexAddr 28 (Go.Operand.tmp 159) (Go.Operand.tmp 162), type := 0, pos := "zsortanyfunc.go:441", after := #[{ on := 1, ground := Go.Ground.data }, { on := 4, ground := Go.Ground.data }], guard := none }) (v := ?v19) rfl (by kernel_rfl) (by kernel_rfl) (by kernel_rfl) (fun _ _ _ h => h) (Or.inl ⟨by rfl, ?hy19⟩) (by assumption) ?_
          case hy19 => (intro w hSw; (try dsimp only at hSw); go_simp; try with_reducible rfl)
          try simp only [Act.put, List.setIfInBounds_toArray, List.set_cons_zero, List.set_cons_succ]
          refine wpAnyH_take (i := 6) (oi := { dst := some 164, op := Go.Op.load 37 (Go.Operand.tmp 163), type := 37, pos := "zsortanyfunc.go:441", after := #[{ on := 5, ground := Go.Ground.data }], guard := none }) (v := ?v20) rfl (by kernel_rfl) (by kernel_rfl) (by kernel_rfl) (fun _ _ _ h => h) (Or.inl ⟨by rfl, ?hy20⟩) (by assumption) ?_
          case hy20 => (intro w hSw; (try dsimp only at hSw); go_simp; try with_reducible rfl)
          try simp only [Act.put, List.setIfInBounds_toArray, List.set_cons_zero, List.set_cons_succ]
          refine wpAnyH_take (i := 7) (oi := { dst := some 165, op := Go.Op.move (Go.Operand.tmp 0), type := 28, pos := "zsortanyfunc.go:441", after := #[], guard := none }) (v := ?v21) rfl (by kernel_rfl) (by kernel_rfl) (by kernel_rfl) (fun _ _ _ h => h) (Or.inl ⟨by rfl, ?hy21⟩) (by assumption) ?_
          case hy21 => (intro w hSw; (try dsimp only at hSw); go_simp; try with_reducible rfl)
          try simp only [Act.put, List.setIfInBounds_toArray, List.set_cons_zero, List.set_cons_succ]
          refine wpAnyH_take (i := 8) (oi := { dst := some 166, op := Go.Op.move (Go.Operand.tmp 23), type := 3, pos := "zsortanyfunc.go:441", after := #[], guard := none }) (v := ?v22) rfl (by kernel_rfl) (by kernel_rfl) (by kernel_rfl) (fun _ _ _ h => h) (Or.inl ⟨by rfl, ?hy22⟩) (by assumption) ?_
          case hy22 => (intro w hSw; (try dsimp only at hSw); go_simp; try with_reducible rfl)
          try simp only [Act.put, List.setIfInBounds_toArray, List.set_cons_zero, List.set_cons_succ]
          refine wpAnyH_take (i := 9) (oi := { dst := some 167, op := Go.Op.indexAddr 28 (Go.Operand.tmp 165) (Go.Operand.tmp 166), type := 0, pos := "zsortanyfunc.go:441", after := #[{ on := 7, ground := Go.Ground.data }, { on := 8, ground := Go.Ground.data }], guard := none }) (v := ?v23) rfl (by kernel_rfl) (by kernel_rfl) (by kernel_rfl) (fun _ _ _ h => h) (Or.inl ⟨by rfl, ?hy23⟩) (by assumption) ?_
          case hy23 => (intro w hSw; (try dsimp only at hSw); go_simp; try with_reducible rfl)
          try simp only [Act.put, List.setIfInBounds_toArray, List.set_cons_zero, List.set_cons_succ]
          refine wpAnyH_take (i := 10) (oi := { dst := some 168, op := Go.Op.load 37 (Go.Operand.tmp 167), type := 37, pos := "zsortanyfunc.go:441", after := #[{ on := 9, ground := Go.Ground.data }], guard := none }) (v := ?v24) rfl (by kernel_rfl) (by kernel_rfl) (by kernel_rfl) (fun _ _ _ h => h) (Or.inl ⟨by rfl, ?hy24⟩) (by assumption) ?_
          case hy24 => (intro w hSw; (try dsimp only at hSw); go_simp; try with_reducible rfl)
          try simp only [Act.put, List.setIfInBounds_toArray, List.set_cons_zero, List.set_cons_succ]
          refine wpAnyH_ready (rs := [11]) (by kernel_rfl) (by simp) ?_
          refine (AllReadyH.cons (i := 11) (o := { dst := some 169, op := Go.Op.call { callee := Go.Callee.value (Go.Operand.tmp 158), args := #[Go.Operand.tmp 164, Go.Operand.tmp 168], argTypes := #[37, 37] }, type := 3, pos := "zsortanyfunc.go:441", after := #[{ on := 0, ground := Go.Ground.data }, { on := 6, ground := Go.Ground.data }, { on := 10, ground := Go.Ground.data }], guard := none }) rfl (fun K' hK' => ?_) AllReadyH.nil)
          go_simp
          with_reducible refine (HO2.out _ (by (repeat' first | with_reducible exact Below.refl _ _ | with_reducible assumption | with_reducible refine Bw.drew ?_ | with_reducible refine Bw.drewN ?_ _ | with_reducible refine bw_al ?_ _ | with_reducible refine Bw.then ?_ (by with_reducible assumption)))).mono ?_
          rintro e wA ⟨rfl, hbA⟩
          try dsimp only
          refine hK'.out _ _ ?_ (fun hHeld => ?_)
          · exact K0 _ (by (repeat' first | with_reducible exact Below.refl _ _ | with_reducible assumption | with_reducible refine Bw.drew ?_ | with_reducible refine Bw.drewN ?_ _ | with_reducible refine bw_al ?_ _ | with_reducible refine Bw.then ?_ (by with_reducible assumption)))
          clear hK' K'
          try simp only [Act.put, List.setIfInBounds_toArray, List.set_cons_zero, List.set_cons_succ]
          refine wpAnyH_take (i := 12) (oi := { dst := some 170, op := Go.Op.binOp Go.BinOp.lss 3 (Go.Operand.tmp 169) (Go.Operand.const (Go.Value.int Go.IntKind.i64 0)) 3, type := 4, pos := "zsortanyfunc.go:441", after := #[{ on := 11, ground := Go.Ground.data }], guard := none }) (v := Value.bool false) rfl (by kernel_rfl) (by kernel_rfl) (by kernel_rfl) (fun _ _ _ h => h) (Or.inl ⟨by rfl, ?hy25⟩) (by assumption) ?_
          case hy25 => (intro w hSw; (try dsimp only at hSw); go_simp)
          try simp only [Act.put, List.setIfInBounds_toArray, List.set_cons_zero, List.set_cons_succ]
          refine wpAnyH_take (i := 13) (oi := { dst := some 171, op := Go.Op.unOp Go.UnOp.not 4 (Go.Operand.tmp 170), type := 4, pos := "zsortanyfunc.go:441", after := #[{ on := 12, ground := Go.Ground.data }], guard := none }) (v := Value.bool true) rfl (by kernel_rfl) (by kernel_rfl) (by kernel_rfl) (fun _ _ _ h => h) (Or.inl ⟨by rfl, ?hy26⟩) (by assumption) ?_
          case hy26 => (intro w hSw; (try dsimp only at hSw); go_simp)
          try simp only [Act.put, List.setIfInBounds_toArray, List.set_cons_zero, List.set_cons_succ]
          refine wpAnyH_done (by kernel_rfl) ?_ _
          go_wp2_with fail
          exact ⟨⟨c + 1, r, by omega, by omega, hr0, by go_num, rfl, hd.then (by (repeat' first | with_reducible exact Below.refl _ _ | with_reducible assumption | with_reducible refine Bw.drew ?_ | with_reducible refine Bw.drewN ?_ _ | with_reducible refine bw_al ?_ _ | with_reducible refine Bw.then ?_ (by with_reducible assumption))), .inr (by have h2 := Hcf.out; rw [show c + 1 - 1 = c by omega, show pp - c - m = f - m by omega]; exact Int.not_lt.1 fun h => by have := HZ.out.2 h; omega), hhi⟩, by simp [intOf]; omega⟩
      · have hsr' : s = r := by omega
        subst hsr'
        obtain ⟨en, hen⟩ : ∃ en, en = n1 - s := ⟨_, rfl⟩
        have hN1 := Hn1.out
        have hPP := Hpp.out
        have hAM := Ham.out
        have hMB := Hmb.out
        have hLA := Hla.out
        have hLB := Hlb.out
        have heni : (n1 : Int) - (s : Int) = (en : Int) := by omega
        have henw : IntKind.i64.wrap (en : Int) = (en : Int) := by simp [IntKind.wrap, IntKind.bits, IntKind.signed]; omega
        have hemb : m ≤ en := by omega
        have heb : en ≤ b := by omega
        obtain ⟨i, hi⟩ : ∃ i, i = s - a := ⟨_, rfl⟩
        obtain ⟨j, hj⟩ : ∃ j, j = en - m := ⟨_, rfl⟩
        have hil : i ≤ A.length := by omega
        have hjl : j ≤ B.length := by omega
        have hl1 : (A.take i).length = i := by rw [List.length_take]; omega
        have hl2 : (A.drop i).length = la - i := by rw [List.length_drop]; omega
        have hl3 : (B.take j).length = j := by rw [List.length_take]; omega
        have hl4 : (B.drop j).length = lb - j := by rw [List.length_drop]; omega
        have HJ : Hid (∀ C1 C2 : List En, C1.Perm (A.take i ++ B.take j) → LS C1 → C2.Perm (A.drop i ++ B.drop j) → LS C2 → LS (C1 ++ C2) ∧ (C1 ++ C2).Perm (A ++ B)) := fun C1 C2 p1 l1 p2 l2 =>
          LS_join hA hB hT hil hjl p1 p2 l1 l2 (fun h1 h2 => by
            rcases hhi with h3 | h3
            · exfalso; omega
            · rwa [← hi, show pp - s - m = j - 1 by omega] at h3) (fun h1 h2 => by
            rcases hlo with h3 | h3
            · exfalso; omega
            · rw [show s - 1 - a = i - 1 by omega, show pp - (s - 1) - m = j by omega] at h3
              exact Int.not_lt.2 h3)
        obtain ⟨tA1, tA2⟩ := hT.take_drop i j
        obtain ⟨sA1, sA2, _⟩ := LS_parts hA i
        obtain ⟨sB1, sB2, _⟩ := LS_parts hB j
        have hw0 : Acc tEn 37 wr base (.slice (some ⟨g, 0, none⟩) n cap) (P ++ (A.take i ++ (A.drop i ++ (B.take j ++ (B.drop j ++ S))))) := by
          have h1 := Hh.out.after hd
          rw [← List.append_assoc (A.take i), List.take_append_drop, ← List.append_assoc (B.take j), List.take_append_drop]
          exact h1
        have hgr0 := grown_bw hd (some g)
        generalize A.take i = X1 at *
        generalize A.drop i = X2 at *
        generalize B.take j = Y1 at *
        generalize B.drop j = Y2 at *
        have hPa := Ha.out
        have HROT : Hid (s < m ∧ m < en → Calls Tryd.prog 90 #[.slice (some ⟨g, 0, none⟩) n cap, .int .i64 s, .int .i64 m, .int .i64 en, .func (.func 32) #[] #[]] wr (RowR g base n cap wr (P ++ (X1 ++ (Y1 ++ (X2 ++ (Y2 ++ S))))))) := fun hc => by
          have h1 := rotate_any (P := P ++ X1) (X := X2) (Y := Y1) (S := Y2 ++ S) (a := s) (m := m) (b := en) (w := wr) (by rw [List.append_assoc]; exact hw0) (by rw [List.length_append]; omega) (by rw [List.length_append]; omega) (by rw [List.length_append]; omega) (by omega) (by omega) hn
          rwa [List.append_assoc] at h1
        have HNR : Hid (¬ (s < m ∧ m < en) → Acc tEn 37 wr base (.slice (some ⟨g, 0, none⟩) n cap) (P ++ (X1 ++ (Y1 ++ (X2 ++ (Y2 ++ S)))))) := fun hc => by
          have h1 := append_void X2 Y1 (by omega)
          rw [← List.append_assoc X2, h1, List.append_assoc] at hw0
          exact hw0
        have HM1 : Hid (a < s ∧ s < d → ∀ W, Acc tEn 37 W base (.slice (some ⟨g, 0, none⟩) n cap) (P ++ (X1 ++ (Y1 ++ (X2 ++ (Y2 ++ S))))) → Calls Tryd.prog 71 #[.slice (some ⟨g, 0, none⟩) n cap, .int .i64 a, .int .i64 s, .int .i64 d, .func (.func 32) #[] #[]] W (MrgR g base n cap W P (X1 ++ Y1) (X2 ++ (Y2 ++ S)))) := fun hc W hW =>
          HI.out (by omega) hW hPa (by omega) (by omega) (by omega) (by omega) sA1 sB1 tA1 hn
        have HK1 : Hid (¬ (a < s ∧ s < d) → LS (X1 ++ Y1)) := fun hc => LS_void sA1 sB1 (by omega)
        have HM2 : Hid (d < en ∧ en < b → ∀ W (C1 : List En), C1.length = X1.length + Y1.length → Acc tEn 37 W base (.slice (some ⟨g, 0, none⟩) n cap) (P ++ (C1 ++ (X2 ++ (Y2 ++ S)))) → Calls Tryd.prog 71 #[.slice (some ⟨g, 0, none⟩) n cap, .int .i64 d, .int .i64 en, .int .i64 b, .func (.func 32) #[] #[]] W (MrgR g base n cap W (P ++ C1) (X2 ++ Y2) S)) := fun hc W C1 hC hW =>
          HI.out (P := P ++ C1) (by omega) (by rw [List.append_assoc]; exact hW) (by rw [List.length_append]; omega) (by rw [List.length_append]; omega) (by rw [List.length_append]; omega) (by omega) (by omega) sA2 sB2 tA2 hn
        have HK2 : Hid (¬ (d < en ∧ en < b) → LS (X2 ++ Y2)) := fun hc => LS_void sA2 sB2 (by omega)
        have HLn : Hid (∀ C1 : List En, C1.Perm (X1 ++ Y1) → C1.length = X1.length + Y1.length) := fun C1 hp => by rw [hp.length_eq, List.length_append]
        clear hlo hhi hA hB hT Hh hw0 tA1 tA2 sA1 sA2 sB1 sB2 hl1 hl2 hl3 hl4 hi hj hil hjl hN1 hPP hAM hMB hLA hLB hPa hen q1 q2 q3 q4 q5 q6 q7 hmid
        by_cases c1 : s < m ∧ m < en
        · have z1 : (s : Int) < (m : Int) := by omega
          have z2 : (m : Int) < (en : Int) := by omega
          have HROT := Lib.hid (HROT.out c1)
          clear HNR c1
          by_cases c2 : a < s ∧ s < d
          · have z3 : (a : Int) < (s : Int) := by omega
            have z4 : (s : Int) < (d : Int) := by omega
            have HM1 := Lib.hid (HM1.out c2)
            clear HK1 c2
            go_wp2_with fail
            with_reducible refine HROT.out.mono ?_
            rintro e wA ⟨rfl, hA1, hgA⟩
            have hg1 := grown_trans hgr0 hgA
            clear HROT
            have HM1 := Lib.hid (HM1.out _ hA1)
            clear hA1
            go_wp2_with fail
            with_reducible refine HM1.out.mono ?_
            rintro e wB ⟨rfl, C1, hp1, hl1, hA2, hgB⟩
            have hg2 := grown_trans hg1 hgB
            clear HM1
            by_cases c3 : d < en ∧ en < b
            · have z5 : (d : Int) < (en : Int) := by omega
              have z6 : (en : Int) < (b : Int) := by omega
              have HM2 := Lib.hid (HM2.out c3 _ C1 (HLn.out _ hp1) hA2)
              clear HK2 c3
              go_wp2_with fail
              all_goals
                with_reducible refine HM2.out.mono ?_
                rintro e wC ⟨rfl, C2, hp2, hl2, hA3, hgC⟩
                clear HM2
                go_wp2_with fail
                go_end0
                have hj := HJ.out _ _ hp1 hl1 hp2 hl2
                exact ⟨rfl, _, hj.2, hj.1, by rw [List.append_assoc] at hA3 ⊢; exact hA3, grown_trans hg2 hgC⟩
            · have hl2 := HK2.out c3
              have hj := HJ.out _ _ hp1 hl1 (List.Perm.refl _) hl2
              have Hj := Lib.hid hj
              have HA3 := Lib.hid hA2
              clear hj hl2 HK2 HM2
              by_cases z5 : (d : Int) < (en : Int)
              · have z6 : ¬ (en : Int) < (b : Int) := by omega
                clear c3
                go_wp2_with fail
                all_goals
                  go_end0
                  exact ⟨rfl, _, Hj.out.2, Hj.out.1, by have h1 := HA3.out; simpa using h1, hg2⟩
              · clear c3
                go_wp2_with fail
                all_goals
                  go_end0
                  exact ⟨rfl, _, Hj.out.2, Hj.out.1, by have h1 := HA3.out; simpa using h1, hg2⟩
          · have hl1 := HK1.out c2
            clear HM1 HK1
            by_cases z3 : (a : Int) < (s : Int)
            · have z4 : ¬ (s : Int) < (d : Int) := by omega
              clear c2
              go_wp2_with fail
              with_reducible refine HROT.out.mono ?_
              rintro e wA ⟨rfl, hA1, hgA⟩
              have hg1 := grown_trans hgr0 hgA
              clear HROT
              have hA2 : Acc tEn 37 wA base (.slice (some ⟨g, 0, none⟩) n cap) (P ++ ((X1 ++ Y1) ++ (X2 ++ (Y2 ++ S)))) := by simpa using hA1
              clear hA1
              by_cases c3 : d < en ∧ en < b
              · have z5 : (d : Int) < (en : Int) := by omega
                have z6 : (en : Int) < (b : Int) := by omega
                have HM2 := Lib.hid (HM2.out c3 _ _ (HLn.out _ (List.Perm.refl _)) hA2)
                clear HK2 c3
                go_wp2_with fail
                all_goals
                  with_reducible refine HM2.out.mono ?_
                  rintro e wC ⟨rfl, C2, hp2, hl2, hA3, hgC⟩
                  clear HM2
                  go_wp2_with fail
                  go_end0
                  have hj := HJ.out _ _ (List.Perm.refl _) hl1 hp2 hl2
                  exact ⟨rfl, _, hj.2, hj.1, by rw [List.append_assoc] at hA3 ⊢; exact hA3, grown_trans hg1 hgC⟩
              · have hl2 := HK2.out c3
                have hj := HJ.out _ _ (List.Perm.refl _) hl1 (List.Perm.refl _) hl2
                have Hj := Lib.hid hj
                have HA3 := Lib.hid hA2
                clear hj hl2 HK2 HM2
                by_cases z5 : (d : Int) < (en : Int)
                · have z6 : ¬ (en : Int) < (b : Int) := by omega
                  clear c3
                  go_wp2_with fail
                  all_goals
                    go_end0
                    exact ⟨rfl, _, Hj.out.2, Hj.out.1, by have h1 := HA3.out; simpa using h1, hg1⟩
                · clear c3
                  go_wp2_with fail
                  all_goals
                    go_end0
                    exact ⟨rfl, _, Hj.out.2, Hj.out.1, by have h1 := HA3.out; simpa using h1, hg1⟩
            · clear c2
              go_wp2_with fail
              with_reducible refine HROT.out.mono ?_
              rintro e wA ⟨rfl, hA1, hgA⟩
              have hg1 := grown_trans hgr0 hgA
              clear HROT
              have hA2 : Acc tEn 37 wA base (.slice (some ⟨g, 0, none⟩) n cap) (P ++ ((X1 ++ Y1) ++ (X2 ++ (Y2 ++ S)))) := by simpa using hA1
              clear hA1
              by_cases c3 : d < en ∧ en < b
              · have z5 : (d : Int) < (en : Int) := by omega
                have z6 : (en : Int) < (b : Int) := by omega
                have HM2 := Lib.hid (HM2.out c3 _ _ (HLn.out _ (List.Perm.refl _)) hA2)
                clear HK2 c3
                go_wp2_with fail
                all_goals
                  with_reducible refine HM2.out.mono ?_
                  rintro e wC ⟨rfl, C2, hp2, hl2, hA3, hgC⟩
                  clear HM2
                  go_wp2_with fail
                  go_end0
                  have hj := HJ.out _ _ (List.Perm.refl _) hl1 hp2 hl2
                  exact ⟨rfl, _, hj.2, hj.1, by rw [List.append_assoc] at hA3 ⊢; exact hA3, grown_trans hg1 hgC⟩
              · have hl2 := HK2.out c3
                have hj := HJ.out _ _ (List.Perm.refl _) hl1 (List.Perm.refl _) hl2
                have Hj := Lib.hid hj
                have HA3 := Lib.hid hA2
                clear hj hl2 HK2 HM2
                by_cases z5 : (d : Int) < (en : Int)
                · have z6 : ¬ (en : Int) < (b : Int) := by omega
                  clear c3
                  go_wp2_with fail
                  all_goals
                    go_end0
                    exact ⟨rfl, _, Hj.out.2, Hj.out.1, by have h1 := HA3.out; simpa using h1, hg1⟩
                · clear c3
                  go_wp2_with fail
                  all_goals
                    go_end0
                    exact ⟨rfl, _, Hj.out.2, Hj.out.1, by have h1 := HA3.out; simpa using h1, hg1⟩
        · have HA1 := Lib.hid (HNR.out c1)
          clear HROT HNR
          by_cases z1 : (s : Int) < (m : Int)
          · have z2 : ¬ (m : Int) < (en : Int) := by omega
            clear c1
            by_cases c2 : a < s ∧ s < d
            · have z3 : (a : Int) < (s : Int) := by omega
              have z4 : (s : Int) < (d : Int) := by omega
              have HM1 := Lib.hid (HM1.out c2)
              clear HK1 c2
              go_wp2_with fail
              with_reducible refine (HM1.out _ HA1.out).mono ?_
              clear HA1
              rintro e wB ⟨rfl, C1, hp1, hl1, hA2, hgB⟩
              have hg2 := grown_trans hgr0 hgB
              clear HM1
              by_cases c3 : d < en ∧ en < b
              · have z5 : (d : Int) < (en : Int) := by omega
                have z6 : (en : Int) < (b : Int) := by omega
                have HM2 := Lib.hid (HM2.out c3 _ C1 (HLn.out _ hp1) hA2)
                clear HK2 c3
                go_wp2_with fail
                all_goals
                  with_reducible refine HM2.out.mono ?_
                  rintro e wC ⟨rfl, C2, hp2, hl2, hA3, hgC⟩
                  clear HM2
                  go_wp2_with fail
                  go_end0
                  have hj := HJ.out _ _ hp1 hl1 hp2 hl2
                  exact ⟨rfl, _, hj.2, hj.1, by rw [List.append_assoc] at hA3 ⊢; exact hA3, grown_trans hg2 hgC⟩
              · have hl2 := HK2.out c3
                have hj := HJ.out _ _ hp1 hl1 (List.Perm.refl _) hl2
                have Hj := Lib.hid hj
                have HA3 := Lib.hid hA2
                clear hj hl2 HK2 HM2
                by_cases z5 : (d : Int) < (en : Int)
                · have z6 : ¬ (en : Int) < (b : Int) := by omega
                  clear c3
                  go_wp2_with fail
                  all_goals
                    go_end0
                    exact ⟨rfl, _, Hj.out.2, Hj.out.1, by have h1 := HA3.out; simpa using h1, hg2⟩
                · clear c3
                  go_wp2_with fail
                  all_goals
                    go_end0
                    exact ⟨rfl, _, Hj.out.2, Hj.out.1, by have h1 := HA3.out; simpa using h1, hg2⟩
            · have hl1 := HK1.out c2
              clear HM1 HK1
              by_cases z3 : (a : Int) < (s : Int)
              · have z4 : ¬ (s : Int) < (d : Int) := by omega
                clear c2
                have hA2 : Acc tEn 37 wr base (.slice (some ⟨g, 0, none⟩) n cap) (P ++ ((X1 ++ Y1) ++ (X2 ++ (Y2 ++ S)))) := by have h1 := HA1.out; simpa using h1
                clear HA1
                by_cases c3 : d < en ∧ en < b
                · have z5 : (d : Int) < (en : Int) := by omega
                  have z6 : (en : Int) < (b : Int) := by omega
                  have HM2 := Lib.hid (HM2.out c3 _ _ (HLn.out _ (List.Perm.refl _)) hA2)
                  clear HK2 c3
                  go_wp2_with fail
                  all_goals
                    with_reducible refine HM2.out.mono ?_
                    rintro e wC ⟨rfl, C2, hp2, hl2, hA3, hgC⟩
                    clear HM2
                    go_wp2_with fail
                    go_end0
                    have hj := HJ.out _ _ (List.Perm.refl _) hl1 hp2 hl2
                    exact ⟨rfl, _, hj.2, hj.1, by rw [List.append_assoc] at hA3 ⊢; exact hA3, grown_trans hgr0 hgC⟩
                · have hl2 := HK2.out c3
                  have hj := HJ.out _ _ (List.Perm.refl _) hl1 (List.Perm.refl _) hl2
                  have Hj := Lib.hid hj
                  have HA3 := Lib.hid hA2
                  clear hj hl2 HK2 HM2
                  by_cases z5 : (d : Int) < (en : Int)
                  · have z6 : ¬ (en : Int) < (b : Int) := by omega
                    clear c3
                    go_wp2_with fail
                    all_goals
                      go_end0
                      exact ⟨rfl, _, Hj.out.2, Hj.out.1, by have h1 := HA3.out; simpa using h1, hgr0⟩
                  · clear c3
                    go_wp2_with fail
                    all_goals
                      go_end0
                      exact ⟨rfl, _, Hj.out.2, Hj.out.1, by have h1 := HA3.out; simpa using h1, hgr0⟩
              · clear c2
                have hA2 : Acc tEn 37 wr base (.slice (some ⟨g, 0, none⟩) n cap) (P ++ ((X1 ++ Y1) ++ (X2 ++ (Y2 ++ S)))) := by have h1 := HA1.out; simpa using h1
                clear HA1
                by_cases c3 : d < en ∧ en < b
                · have z5 : (d : Int) < (en : Int) := by omega
                  have z6 : (en : Int) < (b : Int) := by omega
                  have HM2 := Lib.hid (HM2.out c3 _ _ (HLn.out _ (List.Perm.refl _)) hA2)
                  clear HK2 c3
                  go_wp2_with fail
                  all_goals
                    with_reducible refine HM2.out.mono ?_
                    rintro e wC ⟨rfl, C2, hp2, hl2, hA3, hgC⟩
                    clear HM2
                    go_wp2_with fail
                    go_end0
                    have hj := HJ.out _ _ (List.Perm.refl _) hl1 hp2 hl2
                    exact ⟨rfl, _, hj.2, hj.1, by rw [List.append_assoc] at hA3 ⊢; exact hA3, grown_trans hgr0 hgC⟩
                · have hl2 := HK2.out c3
                  have hj := HJ.out _ _ (List.Perm.refl _) hl1 (List.Perm.refl _) hl2
                  have Hj := Lib.hid hj
                  have HA3 := Lib.hid hA2
                  clear hj hl2 HK2 HM2
                  by_cases z5 : (d : Int) < (en : Int)
                  · have z6 : ¬ (en : Int) < (b : Int) := by omega
                    clear c3
                    go_wp2_with fail
                    all_goals
                      go_end0
                      exact ⟨rfl, _, Hj.out.2, Hj.out.1, by have h1 := HA3.out; simpa using h1, hgr0⟩
                  · clear c3
                    go_wp2_with fail
                    all_goals
                      go_end0
                      exact ⟨rfl, _, Hj.out.2, Hj.out.1, by have h1 := HA3.out; simpa using h1, hgr0⟩
          · clear c1
            by_cases c2 : a < s ∧ s < d
            · have z3 : (a : Int) < (s : Int) := by omega
              have z4 : (s : Int) < (d : Int) := by omega
              have HM1 := Lib.hid (HM1.out c2)
              clear HK1 c2
              go_wp2_with fail
              with_reducible refine (HM1.out _ HA1.out).mono ?_
              clear HA1
              rintro e wB ⟨rfl, C1, hp1, hl1, hA2, hgB⟩
              have hg2 := grown_trans hgr0 hgB
              clear HM1
              by_cases c3 : d < en ∧ en < b
              · have z5 : (d : Int) < (en : Int) := by omega
                have z6 : (en : Int) < (b : Int) := by omega
                have HM2 := Lib.hid (HM2.out c3 _ C1 (HLn.out _ hp1) hA2)
                clear HK2 c3
                go_wp2_with fail
                all_goals
                  with_reducible refine HM2.out.mono ?_
                  rintro e wC ⟨rfl, C2, hp2, hl2, hA3, hgC⟩
                  clear HM2
                  go_wp2_with fail
                  go_end0
                  have hj := HJ.out _ _ hp1 hl1 hp2 hl2
                  exact ⟨rfl, _, hj.2, hj.1, by rw [List.append_assoc] at hA3 ⊢; exact hA3, grown_trans hg2 hgC⟩
              · have hl2 := HK2.out c3
                have hj := HJ.out _ _ hp1 hl1 (List.Perm.refl _) hl2
                have Hj := Lib.hid hj
                have HA3 := Lib.hid hA2
                clear hj hl2 HK2 HM2
                by_cases z5 : (d : Int) < (en : Int)
                · have z6 : ¬ (en : Int) < (b : Int) := by omega
                  clear c3
                  go_wp2_with fail
                  all_goals
                    go_end0
                    exact ⟨rfl, _, Hj.out.2, Hj.out.1, by have h1 := HA3.out; simpa using h1, hg2⟩
                · clear c3
                  go_wp2_with fail
                  all_goals
                    go_end0
                    exact ⟨rfl, _, Hj.out.2, Hj.out.1, by have h1 := HA3.out; simpa using h1, hg2⟩
            · have hl1 := HK1.out c2
              clear HM1 HK1
              by_cases z3 : (a : Int) < (s : Int)
              · have z4 : ¬ (s : Int) < (d : Int) := by omega
                clear c2
                have hA2 : Acc tEn 37 wr base (.slice (some ⟨g, 0, none⟩) n cap) (P ++ ((X1 ++ Y1) ++ (X2 ++ (Y2 ++ S)))) := by have h1 := HA1.out; simpa using h1
                clear HA1
                by_cases c3 : d < en ∧ en < b
                · have z5 : (d : Int) < (en : Int) := by omega
                  have z6 : (en : Int) < (b : Int) := by omega
                  have HM2 := Lib.hid (HM2.out c3 _ _ (HLn.out _ (List.Perm.refl _)) hA2)
                  clear HK2 c3
                  go_wp2_with fail
                  all_goals
                    with_reducible refine HM2.out.mono ?_
                    rintro e wC ⟨rfl, C2, hp2, hl2, hA3, hgC⟩
                    clear HM2
                    go_wp2_with fail
                    go_end0
                    have hj := HJ.out _ _ (List.Perm.refl _) hl1 hp2 hl2
                    exact ⟨rfl, _, hj.2, hj.1, by rw [List.append_assoc] at hA3 ⊢; exact hA3, grown_trans hgr0 hgC⟩
                · have hl2 := HK2.out c3
                  have hj := HJ.out _ _ (List.Perm.refl _) hl1 (List.Perm.refl _) hl2
                  have Hj := Lib.hid hj
                  have HA3 := Lib.hid hA2
                  clear hj hl2 HK2 HM2
                  by_cases z5 : (d : Int) < (en : Int)
                  · have z6 : ¬ (en : Int) < (b : Int) := by omega
                    clear c3
                    go_wp2_with fail
                    all_goals
                      go_end0
                      exact ⟨rfl, _, Hj.out.2, Hj.out.1, by have h1 := HA3.out; simpa using h1, hgr0⟩
                  · clear c3
                    go_wp2_with fail
                    all_goals
                      go_end0
                      exact ⟨rfl, _, Hj.out.2, Hj.out.1, by have h1 := HA3.out; simpa using h1, hgr0⟩
              · clear c2
                have hA2 : Acc tEn 37 wr base (.slice (some ⟨g, 0, none⟩) n cap) (P ++ ((X1 ++ Y1) ++ (X2 ++ (Y2 ++ S)))) := by have h1 := HA1.out; simpa using h1
                clear HA1
                by_cases c3 : d < en ∧ en < b
                · have z5 : (d : Int) < (en : Int) := by omega
                  have z6 : (en : Int) < (b : Int) := by omega
                  have HM2 := Lib.hid (HM2.out c3 _ _ (HLn.out _ (List.Perm.refl _)) hA2)
                  clear HK2 c3
                  go_wp2_with fail
                  all_goals
                    with_reducible refine HM2.out.mono ?_
                    rintro e wC ⟨rfl, C2, hp2, hl2, hA3, hgC⟩
                    clear HM2
                    go_wp2_with fail
                    go_end0
                    have hj := HJ.out _ _ (List.Perm.refl _) hl1 hp2 hl2
                    exact ⟨rfl, _, hj.2, hj.1, by rw [List.append_assoc] at hA3 ⊢; exact hA3, grown_trans hgr0 hgC⟩
                · have hl2 := HK2.out c3
                  have hj := HJ.out _ _ (List.Perm.refl _) hl1 (List.Perm.refl _) hl2
                  have Hj := Lib.hid hj
                  have HA3 := Lib.hid hA2
                  clear hj hl2 HK2 HM2
                  by_cases z5 : (d : Int) < (en : Int)
                  · have z6 : ¬ (en : Int) < (b : Int) := by omega
                    clear c3
                    go_wp2_with fail
                    all_goals
                      go_end0
                      exact ⟨rfl, _, Hj.out.2, Hj.out.1, by have h1 := HA3.out; simpa using h1, hgr0⟩
                  · clear c3
                    go_wp2_with fail
                    all_goals
                      go_end0
                      exact ⟨rfl, _, Hj.out.2, Hj.out.1, by have h1 := HA3.out; simpa using h1, hgr0⟩
theorem mrg_at : ∀ N, MrgAt N := by
  intro N
  induction N with
  | zero => intro g base n cap a m b w P A B S hN _ _ _ _ hA _ _ _ _ _; exact absurd hN (by omega)
  | succ N ih =>
    intro g base n cap a m b w P A B S hN h ha hm hb hA0 hB0 hA hB hT hn
    by_cases h1 : A.length = 1
    · obtain ⟨x, rfl⟩ := List.length_eq_one_iff.1 h1
      exact mergeL_any (by simpa using h) ha (by simpa using hm) (by simpa using hb) hB hT hn
    · by_cases h2 : B.length = 1
      · obtain ⟨y, rfl⟩ := List.length_eq_one_iff.1 h2
        exact mergeR_any (by simpa using h) ha hm (by simp at hb; omega) (by omega) hA hT hn
      · exact mergeG_any ih hN h ha hm hb (by omega) (by omega) hA hB hT hn
end Go.Proofs.YtonadloonidmjaaDoor
namespace Go.Proofs.YtonadloonidmjaaDoor
open Go.RowKit Go.Sort
open Pl

theorem agr_seg {w : World} {D : Nat → Prop} [Inhabited (ElV tEn w D)] {d : Array (ElV tEn w D)} {P A S : List En} {a b : Nat} (hd : d.toList.map (·.x) = P ++ (A ++ S)) (ha : a = P.length) (hb : b = P.length + A.length) (hT : TO A) :
    Agr (Go.Proofs.ltOf cfC) (fun p q : ElV tEn w D => lkB p.x q.x) a b d := by
  intro p q h1 h2 h3
  have hl : d.size = P.length + (A.length + S.length) := by have := congrArg List.length hd; simpa using this
  have hp : p < d.size := by omega
  have hq : q < d.size := by omega
  have hat : ∀ k (hk : k < d.size), a ≤ k → k < b → A[k - a]? = some (d[k]).x := fun k hk h4 h5 => by
    have h6 : (d.toList.map (·.x))[k]? = some (d[k]).x := by simp [hk]
    rw [hd] at h6
    exact at_seg P A S (by omega) (by omega) h6
  obtain ⟨hp1, hp2⟩ := List.getElem?_eq_some_iff.1 (hat p hp h1 (by omega))
  obtain ⟨hq1, hq2⟩ := List.getElem?_eq_some_iff.1 (hat q hq (by omega) h3)
  have hpq := List.pairwise_iff_getElem.1 hT (p - a) (q - a) hp1 hq1 (by omega)
  rw [hp2, hq2] at hpq
  rw [ltC_eq, getElem!_pos d p hp, getElem!_pos d q hq]
  generalize d[p] = y at *
  generalize d[q] = x at *
  rw [Bool.eq_iff_iff, decide_eq_true_iff, lk_iff]
  exact ⟨fun h1 => .inl h1, fun h1 => h1.elim id fun h4 => absurd hpq (totB.asym h4.2)⟩

theorem ins60_any {g base n cap a b : Nat} {w : World} {P A S : List En} (h : Acc tEn 37 w base (.slice (some ⟨g, 0, none⟩) n cap) (P ++ (A ++ S))) (ha : a = P.length) (hb : b = P.length + A.length) (hT : TO A) (hn : n ≤ 1000000) (h0 : 0 < n) :
    Calls Tryd.prog 60 #[.slice (some ⟨g, 0, none⟩) n cap, .int .i64 a, .int .i64 b, .func (.func 32) #[] #[]] w (MrgR g base n cap w P A S) := by
  have hl := acc_len h
  obtain ⟨g', cap', e, hbg, hg, hcap, I, d, hd, hH⟩ := h.els (by omega)
  injection e with e1 e2 e3
  injection e1 with e1
  injection e1 with e1
  subst e1 e3
  have hsz : d.size = n := by rw [hl, ← hd]; simp
  have hll : n = P.length + (A.length + S.length) := by rw [hl]; simp
  have hag := insertionSort_agree (show b ≤ d.size by omega) (agr_seg hd ha hb hT)
  have hspec := insertionSort_holds (swo_lk (fun p : ElE w base g => p.x)) d a b (by omega) (by omega)
  rw [← hag] at hspec
  obtain ⟨C, hC1, hC2, hC3⟩ := perm_seg hspec.1 hspec.2 hd ha hb hT
  have HI := (Go.Proofs.AnyQ.insertionSortCmpFunc Tryd.insE 3 Tryd.isAgg37 Tryd.sizeOf37 (encV (T := tEn)) (fun p => encV_len p) (fun p => encV_one p) cfC 32 #[] g 0 cap a b d w enters32 (lays32 d.size) hH hg (by omega) (by omega) (by omega))
  rw [hsz] at HI
  refine HI.mono ?_
  rintro e w' ⟨rfl, m, os, rfl⟩
  have hA := els_back h (insertionSort (Go.Proofs.ltOf cfC) d a b) (by rw [hspec.1.1, hsz]) m os
  rw [hC3] at hA
  exact ⟨rfl, C, hC1, hC2, hA, grown_sortK (T := tEn) (w := w) (g := g) (D := fun b => base ≤ b ∧ b ≠ g) m _ os⟩
theorem wrapN {n : Nat} (h : n ≤ 9000000) : IntKind.i64.wrap (n : Int) = (n : Int) := by simp [IntKind.wrap, IntKind.bits, IntKind.signed]; omega

set_option linter.unusedSimpArgs false in
set_option maxRecDepth 100000 in
set_option maxHeartbeats 16000000 in
theorem stable52_any {g base n cap : Nat} {w : World} {xs : List En} (h : Acc tEn 37 w base (.slice (some ⟨g, 0, none⟩) n cap) xs) (hT : TO xs) (hn : n ≤ 1000000) (h0 : 0 < n) :
    Calls Tryd.prog 52 #[.slice (some ⟨g, 0, none⟩) n cap, .int .i64 n, .func (.func 32) #[] #[]] w (RowR g base n cap w (sortL xs)) := by
  have Hl := Lib.hid (acc_len h)
  have HT : Hid (TO xs) := hT
  have Hh := Lib.hid h
  clear hT h
  go_enter Tryd.func52, Tryd.ntmps52
  go_wp2_with fail
  go_loopw [7, 8] (fun a b wr => ∃ (k q : Nat) (X1 X2 C1 : List En), a = .int .i64 k ∧ b = .int .i64 q ∧ Hid (q = k + 20) ∧ k ≤ n ∧ Hid (xs = X1 ++ X2) ∧ Hid (k = X1.length) ∧ Hid (∃ j, X1.length = j * 20) ∧ Hid (Bl 20 X1 C1) ∧ w.grownBy wr (some g) ∧ Hid (Acc tEn 37 wr base (.slice (some ⟨g, 0, none⟩) n cap) (C1 ++ X2))) (fun a _ _ => n - (intOf a).toNat)
  case atStart => exact ⟨0, 20, [], xs, [], rfl, rfl, rfl, Nat.zero_le _, rfl, rfl, ⟨0, rfl⟩, .nil, ⟨rfl, rfl, rfl, Nat.le_refl _, fun _ _ _ => rfl⟩, Hh.out⟩
  case round =>
    obtain ⟨k, q, X1, X2, C1, rfl, rfl, hq, hk, hx, hkl, hj, hB, hgr, hA⟩ := hrel
    have hqe := hq.out
    by_cases hle : q ≤ n
    · have hqi : (q : Int) ≤ (n : Int) := by omega
      have hx2 : X2.length = n - k := by have h1 := congrArg List.length hx.out; rw [List.length_append] at h1; have := Hl.out; have := hkl.out; omega
      have hl1 : (X2.take 20).length = 20 := by rw [List.length_take]; omega
      have HC : Hid (Calls Tryd.prog 60 #[.slice (some ⟨g, 0, none⟩) n cap, .int .i64 k, .int .i64 q, .func (.func 32) #[] #[]] wr (MrgR g base n cap wr C1 (X2.take 20) (X2.drop 20))) := by
        have hC1 := hB.out.len
        have hkk := hkl.out
        refine ins60_any (by rw [List.take_append_drop]; exact hA.out) (by omega) (by omega) ?_ hn h0
        have h1 := HT.out
        rw [hx.out, ← List.take_append_drop 20 X2] at h1
        exact h1.part
      obtain ⟨q', hq'⟩ : ∃ q', q' = q + 20 := ⟨_, rfl⟩
      have hq'i : (q : Int) + 20 = (q' : Int) := by omega
      have hqw := wrapN (n := q') (by omega)
      have HL1 := Lib.hid hl1
      have HX2 := Lib.hid hx2
      have Hq' := Lib.hid hq'
      have hkq : k < q := by omega
      clear hA hl1 hx2 Hh hqe hq'
      go_wp2_with fail
      with_reducible refine HC.out.mono ?_
      rintro e w1 ⟨rfl, C, hp, hl, hA1, hg1⟩
      clear HC
      go_wp2_with fail
      exact ⟨⟨q, q', X1 ++ X2.take 20, X2.drop 20, C1 ++ C, rfl, by go_num, Hq'.out, hle, by show _ = _; rw [List.append_assoc, List.take_append_drop]; exact hx.out, by show _ = _; rw [List.length_append, HL1.out, ← hkl.out]; exact hq.out, by obtain ⟨j, hj⟩ := hj.out; exact ⟨j + 1, by rw [List.length_append, HL1.out]; omega⟩, hB.out.append (.of (by rw [HL1.out]; exact Nat.le_refl _) hp hl) hj.out, grown_trans hgr hg1, by show Acc _ _ _ _ _ _; rw [List.append_assoc]; exact hA1⟩, by simp [intOf]; omega⟩
    · have hqi : ¬ (q : Int) ≤ (n : Int) := by omega
      have hx2 : X2.length = n - k := by have h1 := congrArg List.length hx.out; rw [List.length_append] at h1; have := Hl.out; have := hkl.out; omega
      have HC : Hid (Calls Tryd.prog 60 #[.slice (some ⟨g, 0, none⟩) n cap, .int .i64 k, .int .i64 n, .func (.func 32) #[] #[]] wr (MrgR g base n cap wr C1 X2 [])) := by
        have hC1 := hB.out.len
        have hkk := hkl.out
        refine ins60_any (by rw [List.append_nil]; exact hA.out) (by omega) (by omega) ?_ hn h0
        have h1 := HT.out
        rw [hx.out, ← List.append_nil X2] at h1
        exact h1.part
      have HX2 : Hid (X2.length ≤ 20) := by show _ ≤ _; omega
      clear hA hx2 Hh hqe
      go_wp2_with fail
      with_reducible refine HC.out.mono ?_
      rintro e w1 ⟨rfl, C, hp, hl, hA1, hg1⟩
      clear HC
      have HB1 : Hid (Bl 20 xs (C1 ++ C)) := by
        show Bl _ _ _
        rw [hx.out]
        exact hB.out.append (.of HX2.out hp hl) hj.out
      have hg1 := grown_trans hgr hg1
      rw [List.append_nil] at hA1
      have HA1 := Lib.hid hA1
      clear hA1 hB hj hx hkl hk hq hle hgr hp hl HX2
      rename World => W0
      go_wp2_with fail
      go_loopw [6] (fun a wr => ∃ (s : Nat) (C : List En), a = .int .i64 s ∧ 0 < s ∧ s ≤ 2000020 ∧ Hid (Bl s xs C) ∧ w.grownBy wr (some g) ∧ Hid (Acc tEn 37 wr base (.slice (some ⟨g, 0, none⟩) n cap) C)) (fun a _ => n - (intOf a).toNat)
      case atStart => exact ⟨20, _, rfl, by omega, by omega, HB1, hg1, HA1⟩
      case round =>
        clear HB1 HA1 hg1
        obtain ⟨s, C, rfl, hs0, hsb, hB, hgr, hA⟩ := hrel
        by_cases hsn : s < n
        · have hsi : (s : Int) < (n : Int) := by omega
          obtain ⟨s2, hs2⟩ : ∃ s2, s2 = 2 * s := ⟨_, rfl⟩
          have hs2i : 2 * (s : Int) = (s2 : Int) := by omega
          have hs2i' : (s : Int) * 2 = (s2 : Int) := by omega
          have hs2w := wrapN (n := s2) (by omega)
          have Hs2 := Lib.hid hs2
          have hs2b : s2 ≤ 2000020 := by omega
          have hs2p : 0 < s2 := by omega
          have hss2 : s < s2 := by omega
          clear hs2
          go_wp2_with fail
          rename World => W1
          go_loopw [7, 8] (fun a b wq => ∃ (k q : Nat) (X1 X2 C1 C2 : List En), a = .int .i64 k ∧ b = .int .i64 q ∧ Hid (q = k + s2) ∧ k ≤ n ∧ Hid (xs = X1 ++ X2) ∧ Hid (k = X1.length) ∧ Hid (∃ j, X1.length = j * s2) ∧ Hid (Bl s2 X1 C1) ∧ Hid (Bl s X2 C2) ∧ w.grownBy wq (some g) ∧ Hid (Acc tEn 37 wq base (.slice (some ⟨g, 0, none⟩) n cap) (C1 ++ C2))) (fun a _ _ => n - (intOf a).toNat)
          case atStart => exact ⟨0, s2, [], xs, [], C, rfl, rfl, (by show s2 = 0 + s2; omega), Nat.zero_le _, rfl, rfl, ⟨0, by simp⟩, .nil, hB, hgr, hA⟩
          case round =>
            clear hB hA hgr
            obtain ⟨k, q, X1, X2, C1, C2, rfl, rfl, hq, hk, hx, hkl, hj, hB1, hB2, hgr, hA⟩ := hrel
            have hqe := hq.out
            have hx2 : X2.length = n - k := by have h1 := congrArg List.length hx.out; rw [List.length_append] at h1; have := Hl.out; have := hkl.out; omega
            obtain ⟨m, hm⟩ : ∃ m, m = k + s := ⟨_, rfl⟩
            have hmi : (k : Int) + (s : Int) = (m : Int) := by omega
            have hmw := wrapN (n := m) (by omega)
            have hs2 := Hs2.out
            have hkC : k = C1.length := by rw [hB1.out.len]; exact hkl.out
            by_cases hle : q ≤ n
            · have hqi : (q : Int) ≤ (n : Int) := by omega
              obtain ⟨A, A', X', C', rfl, rfl, hAl, hAp, hAs, hB3⟩ := hB2.out.one hs0 (by omega)
              obtain ⟨B, B', X'', C'', rfl, rfl, hBl, hBp, hBs, hB4⟩ := hB3.one hs0 (by rw [List.length_append, hAl] at hx2; omega)
              have hAl' := hAp.length_eq
              have hBl' := hBp.length_eq
              have HC : Hid (Calls Tryd.prog 71 #[.slice (some ⟨g, 0, none⟩) n cap, .int .i64 k, .int .i64 m, .int .i64 q, .func (.func 32) #[] #[]] wr (MrgR g base n cap wr C1 (A' ++ B') C'')) :=
                mrg_at _ (Nat.le_refl _) hA.out hkC (by omega) (by omega) (by omega) (by omega) hAs hBs (TO.two (by rw [← hx.out]; exact HT.out) hAp hBp) hn
              obtain ⟨q', hq'⟩ : ∃ q', q' = q + s2 := ⟨_, rfl⟩
              have hq'i : (q : Int) + (s2 : Int) = (q' : Int) := by omega
              have hqw := wrapN (n := q') (by omega)
              have HP := Lib.hid (hAp.append hBp)
              have HL : Hid ((A ++ B).length = s2) := by show _ = _; rw [List.length_append, hAl, hBl]; omega
              have HB4 := Lib.hid hB4
              have Hq' := Lib.hid hq'
              have hkq : k < q := by omega
              clear hA hB3 hB4 hAp hBp hAs hBs hAl hBl hAl' hBl' hx2 hB2 hm hqe hq' hkC hs2
              go_wp2_with fail
              with_reducible refine HC.out.mono ?_
              rintro e w1 ⟨rfl, M, hp, hl, hA1, hg1⟩
              clear HC
              go_wp2_with fail
              exact ⟨⟨q, q', X1 ++ (A ++ B), X'', C1 ++ M, C'', rfl, by go_num, Hq'.out, hle, by show _ = _; rw [hx.out]; simp, by show _ = _; rw [List.length_append, HL.out, ← hkl.out]; exact hq.out, by obtain ⟨j, hj⟩ := hj.out; exact ⟨j + 1, by rw [List.length_append, HL.out, hj, Nat.add_mul, Nat.one_mul]⟩, hB1.out.append (.of (by rw [HL.out]; exact Nat.le_refl _) (hp.trans HP.out) hl) hj.out, HB4, grown_trans hgr hg1, by show Acc _ _ _ _ _ _; rw [List.append_assoc]; exact hA1⟩, by simp [intOf]; omega⟩
            · have hqi : ¬ (q : Int) ≤ (n : Int) := by omega
              by_cases hmn : m < n
              · have hmni : (m : Int) < (n : Int) := by omega
                obtain ⟨A, A', X', C', rfl, rfl, hAl, hAp, hAs, hB3⟩ := hB2.out.one hs0 (by omega)
                have hXl : X'.length = n - k - s := by rw [List.length_append, hAl] at hx2; omega
                obtain ⟨hBp, hBs⟩ := hB3.short (by omega)
                have hAl' := hAp.length_eq
                have hBl' := hBp.length_eq
                have HC : Hid (Calls Tryd.prog 71 #[.slice (some ⟨g, 0, none⟩) n cap, .int .i64 k, .int .i64 m, .int .i64 n, .func (.func 32) #[] #[]] wr (MrgR g base n cap wr C1 (A' ++ C') [])) :=
                  mrg_at _ (Nat.le_refl _) (by rw [List.append_nil]; exact hA.out) hkC (by omega) (by omega) (by omega) (by omega) hAs hBs (TO.two (X := X1) (Z := []) (by rw [List.append_nil, ← hx.out]; exact HT.out) hAp hBp) hn
                have HP := Lib.hid (hAp.append hBp)
                have HL : Hid ((A ++ X').length ≤ s2) := by show _ ≤ _; rw [List.length_append, hAl]; omega
                clear hA hB3 hAp hBp hAs hBs hAl hAl' hBl' hx2 hB2 hXl hm hkC hqe hs2
                go_wp2_with fail
                with_reducible refine HC.out.mono ?_
                rintro e w1 ⟨rfl, M, hp, hl, hA1, hg1⟩
                clear HC
                rw [List.append_nil] at hA1
                have HB5 : Hid (Bl s2 xs (C1 ++ M)) := by
                  show Bl _ _ _
                  rw [hx.out]
                  exact hB1.out.append (.of HL.out (hp.trans HP.out) hl) hj.out
                have HA1 := Lib.hid hA1
                clear hA1 hp hl hx hj
                go_wp2_with fail
                exact ⟨⟨s2, _, by go_num, by omega, by omega, HB5, grown_trans hgr hg1, HA1⟩, by simp [intOf]; omega⟩
              · have hmni : ¬ (m : Int) < (n : Int) := by omega
                have hBs := hB2.out.short (by omega)
                have HB5 : Hid (Bl s2 xs (C1 ++ C2)) := by
                  show Bl _ _ _
                  rw [hx.out]
                  exact hB1.out.append (.of (by omega) hBs.1 hBs.2) hj.out
                clear hBs hx2 hB2 hx hj hm hkC hqe hs2
                go_wp2_with fail
                exact ⟨⟨s2, _, by go_num, by omega, by omega, HB5, hgr, hA⟩, by simp [intOf]; omega⟩
        · have hsi : ¬ (s : Int) < (n : Int) := by omega
          obtain ⟨hp, hl⟩ := hB.out.short (by have := Hl.out; omega)
          have hC := sort_of HT.out hp hl
          subst hC
          clear hp hl hB
          go_wp2_with fail
          go_end0
          exact ⟨rfl, hA.out, hgr⟩

/-- The stable sort of endings in order of their tags. -/
theorem stable_any {xs : List En} (ht : TO xs) (h0 : 0 < xs.length) (hn : xs.length ≤ 1000000) : StableAt xs := by
  intro v base w h
  obtain ⟨g, cap, rfl, hbg, hg, hcap, _⟩ := h.els h0
  obtain ⟨n, hnn⟩ : ∃ n, n = xs.length := ⟨_, rfl⟩
  rw [← hnn] at h ⊢
  have HS := Lib.hid (stable52_any h ht (by omega) (by omega))
  clear h hnn
  go_enter Tryd.func31, Tryd.ntmps31
  go_wp2_with fail
  with_reducible refine HS.out.mono ?_
  rintro e w' ⟨rfl, hA, hG⟩
  go_wp2_with fail
  go_end0
  exact ⟨rfl, hA, g, hbg, hG⟩
end Go.Proofs.YtonadloonidmjaaDoor

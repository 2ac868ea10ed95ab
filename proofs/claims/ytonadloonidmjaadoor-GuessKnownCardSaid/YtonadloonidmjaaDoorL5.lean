/- The walk of the statement GuessKnown. -/
import Derived.Test.YtonadloonidmjaaDoorM3
import Derived.Test.YtonadloonidmjaaDoorGB
import Derived.Test.YtonadloonidmjaaDoorGW
namespace Go.Proofs.YtonadloonidmjaaDoor
open Go.RowKit
open Pl

theorem large_len5 {l : List Kn} (h : largeB l = false) : l.length ≤ 60 := by
  unfold largeB at h
  rw [Bool.or_eq_false_iff] at h
  have := h.1
  simp at this
  omega
/-- The stable sort of the elements of a valid list with one word. -/
theorem stable_at5 {g : List En} (hv : validG g = true) (y : List Int) (hne : atW g y ≠ []) : StableAt (atW g y) := by
  have h1 := validG_len hv
  have h2 := atW_len g y
  refine stable_any (atW_dt (validG_sorted hv) y) ?_ (by omega)
  rcases Nat.eq_zero_or_pos (atW g y).length with h | h
  · exact absurd (List.eq_nil_of_length_eq_zero h) hne
  · exact h
/-- What learned endings are, as the statement looks at them. -/
structure KnowG (l : List Kn) (most : Int) (G : List En) : Prop where
  valid : validG G = true
  sum : sumE G = l.length
  part : ∀ k, 0 ≤ sumE (G.take k) ∧ sumE (G.take k) ≤ 60
  mono : ∀ e ∈ G, ∀ f ∈ G, f.2.1 = e.2.1 → f.1 = e.1.drop 1 → e.1 ≠ [] → ¬ f.2.2 < e.2.2
  rng : ∀ e ∈ G, 0 ≤ e.2.2 ∧ e.2.2 ≤ 60
  guess : ∀ k ∈ l, ∃ a, guessP G k.1 = (a, 0) ∧ a ≠ [] ∧ ((k.1.length : Int) ≤ most → ∀ t ∈ wholeP l k.1, ∃ e ∈ a, e.2.1 = t)
theorem sumE_append : ∀ a b : List En, sumE (a ++ b) = sumE a + sumE b
  | [], b => by simp [sumE]
  | e :: a, b => by
    show vE e + sumE (a ++ b) = vE e + sumE a + sumE b
    rw [sumE_append a b]; omega
theorem sumE_nonneg : ∀ a : List En, (∀ e ∈ a, 0 ≤ e.2.2) → 0 ≤ sumE a
  | [], _ => Int.le_refl _
  | e :: a, h => by
    have h1 := sumE_nonneg a fun f hf => h f (by simp [hf])
    have h2 := h e (by simp)
    have h3 : 0 ≤ vE e := by unfold vE; split <;> omega
    show 0 ≤ vE e + sumE a
    omega
theorem learn_know {l : List Kn} {most : Int} {G : List En} (hl : l.length ≤ 60) (h : learnP l most = (G, 0)) : KnowG l most G := by
  unfold learnP at h
  by_cases h1 : argB l most = true
  · rw [if_pos h1] at h
    by_cases h2 : (learnE (evs l most.toNat)).length ≤ 30000
    · rw [if_pos h2] at h
      injection h with h3 h4
      subst h3
      have hr : ∀ e ∈ learnE (evs l most.toNat), 0 ≤ e.2.2 ∧ e.2.2 ≤ 60 := fun e he => by
        have h5 := learn_mem he
        have h6 := cnt_evs_le (most := most.toNat) (x := kyE e) l
        omega
      have hs := sumE_learn l most.toNat
      refine ⟨validG_learn h1 h2, hs, fun k => ?_, fun e he f hf ht hw hn => ?_, hr, fun k hk => guess_learn h1 h2 hk⟩
      · have h5 := sumE_append ((learnE (evs l most.toNat)).take k) ((learnE (evs l most.toNat)).drop k)
        rw [List.take_append_drop] at h5
        have h6 := sumE_nonneg ((learnE (evs l most.toNat)).take k) fun e he => (hr e (List.mem_of_mem_take he)).1
        have h7 := sumE_nonneg ((learnE (evs l most.toNat)).drop k) fun e he => (hr e (List.mem_of_mem_drop he)).1
        omega
      · cases hx : e.1 with
        | nil => exact absurd hx hn
        | cons a y =>
          have h5 : e.1 = a :: f.1 := by rw [hw, hx]; rfl
          have h6 := learn_mono he hf h5 ht
          omega
    · rw [if_neg h2] at h; injection h with _ h4; exact absurd h4 (by decide)
  · rw [if_neg h1] at h; injection h with _ h4; exact absurd h4 (by decide)
theorem any_snoc {α : Type} (p : α → Bool) {a : List α} {k : Nat} {y : α} (h : a[k]? = some y) : (a.take (k + 1)).any p = ((a.take k).any p || p y) := by
  rw [List.take_add_one, h, List.any_append]; simp
theorem bool_str_eq {a b : ByteArray} (h : a = b) : (a.toList == b.toList) = true := by rw [h]; exact str_eq b
theorem sl_str {w : World} {A : Option Addr} {n c : Nat} {D : Nat → Prop} {xs : List ByteArray} (h : Sl tStr w D (.slice A n c) xs) {k : Nat} (hk : k < xs.length) :
    ∃ b off x, A = some ⟨b, off, none⟩ ∧ Hid (xs[k]? = some x) ∧ w.cell? ⟨b, off + k, none⟩ = some (.string x) := by
  obtain ⟨b, off, x, h1, h2, _, h3⟩ := h.str hk
  exact ⟨b, off, x, h1, h2, h3⟩

set_option linter.unusedSimpArgs false in
set_option maxRecDepth 100000 in
set_option maxHeartbeats 32000000 in
theorem known_walk {v : Value} {l : List Kn} {most : Int} {w : World} (hT : Tb w) (h : Rd tKn w v l) :
    Calls Tryd.prog 7 #[v, .int .i64 most] w fun e w' => e = .returned (.bool true) ∧ Bw w w' := by
  obtain ⟨A, N, c, rfl, _, _, hN⟩ := h.form'
  have HA := Lib.hid (fun (W : World) (kk : Bw w W) => awake_any (hT.after kk))
  cases hL : largeB l
  case true =>
    go_enter Tryd.func7, Tryd.ntmps7
    go_wp2_with (first | (go_at_call 8; (with_reducible refine (val_of (congrArg Value.bool hL) (large_any h)).mono ?_); rintro e w1 ⟨rfl, n, rfl⟩) | (go_at_call 9; (with_reducible refine (HA.out _ (Dr.n w n).bw).mono ?_); rintro e w2 ⟨rfl, hb2⟩))
    go_ret
    exact ⟨rfl, (Dr.n w n).bw.then hb2⟩
  have h60 := large_len5 hL
  have hN60 : N ≤ 60 := by have := hN.out; omega
  have HL := Lib.hid (val_of (congrArg Value.bool hL) (large_any h))
  have HLe := Lib.hid (fun (W : World) (kk : Bw w W) => learn_any (most := most) (hT.after kk) (h.after kk))
  unfold LearnR at HLe
  obtain ⟨G, E, hGE⟩ : ∃ G E, learnP l most = (G, E) := ⟨_, _, rfl⟩
  rw [hGE] at HLe
  by_cases hE0 : E = 0
  case neg =>
    have hEb : (E != 0) = true := by rw [bne_iff_ne]; exact hE0
    clear hL hGE
    go_enter Tryd.func7, Tryd.ntmps7
    go_wp2_with (first | (go_at_call 8; (with_reducible refine HL.out.mono ?_); rintro e w1 ⟨rfl, n, rfl⟩; have k1 := (Dr.n w n).bw) | (go_at_call 10; (with_reducible refine (HLe.out _ k1).mono ?_); rintro e w2 ⟨v2, rfl, q2, hv2⟩; have k2 := k1.then q2) | (go_at_call 9; (with_reducible refine (HA.out _ k2).mono ?_); rintro e w3 ⟨rfl, hb3⟩))
    go_ret
    exact ⟨rfl, k2.then hb3⟩
  subst hE0
  have HK := Lib.hid (learn_know h60 hGE)
  have HR := Lib.hid (fun (W : World) (kk : Bw w W) => h.after kk)
  have HTb := Lib.hid (fun (W : World) (kk : Bw w W) => hT.after kk)
  have hN' := hN
  clear hL hGE h hT
  go_enter Tryd.func7, Tryd.ntmps7
  go_wp2_with (first | (go_at_call 8; (with_reducible refine HL.out.mono ?_); rintro e w1 ⟨rfl, n, rfl⟩; have k1 := (Dr.n w n).bw) | (go_at_call 10; (with_reducible refine (HLe.out _ k1).mono ?_); rintro e w2 ⟨v2, rfl, q2, hv2⟩; have k2 := k1.then q2; obtain ⟨AG, M, cG, rfl, _, _, hM⟩ := hv2.form'))
  have HG := Lib.hid (fun (W : World) (kk : Bw w2 W) => hv2.rd.after kk)
  clear HL HLe hv2 q2 k1
  go_loopw [7, 8] (fun s i wr => ∃ k : Nat, k ≤ M ∧ i = .int .i64 k ∧ Bw w2 wr ∧ ∃ z : Int, s = .int .i64 z ∧ Hid (z = sumE (G.take k)) ∧ 0 ≤ z ∧ z ≤ 60) (fun _ i _ => M - (intOf i).toNat)
  case atStart => exact ⟨0, Nat.zero_le _, rfl, Below.refl _ _, 0, rfl, rfl, Int.le_refl _, by decide⟩
  case round =>
    obtain ⟨k, hk, rfl, hd, z, rfl, hz, hz0, hz1⟩ := hrel
    by_cases hlt : k < M
    · obtain ⟨b, off, e, u1, rfl, he, hes, hec, hu, e0, e1, e2⟩ := (HG.out _ hd).en (k := k) (by have := hM.out; omega)
      obtain ⟨A1, n1, c1, rfl, _, _, hn1⟩ := hu.form'
      have hsn : sumE (G.take (k + 1)) = sumE (G.take k) + vE e := by
        rw [List.take_add_one, he.out]
        exact sumE_snoc _ _
      have hpk := HK.out.part (k + 1)
      have her := HK.out.rng e (List.mem_of_getElem? he.out)
      by_cases hn0 : n1 = 0
      · subst hn0
        have hnil : e.1 = [] := List.eq_nil_of_length_eq_zero hn1.out.symm
        obtain ⟨z', hz'⟩ : ∃ z', z' = z + e.2.2 := ⟨_, rfl⟩
        have hzz : Hid (z' = sumE (G.take (k + 1))) := by
          show _ = _
          rw [hsn, hz', hz.out]; unfold vE; rw [if_pos hnil]
        have hr' : 0 ≤ z' ∧ z' ≤ 60 := by rw [hzz.out]; exact hpk
        have hzw : IntKind.i64.wrap z' = z' := by simp [IntKind.wrap, IntKind.bits, IntKind.signed]; omega
        have hz'' : z + e.2.2 = z' := hz'.symm
        obtain ⟨z0, z1⟩ := hr'
        clear hu hsn hpk her hz' hnil
        go_wp2_with fail
        rename World => W3
        go_loopw [9] (fun j wq => j = .int .i64 0 ∧ wq = W3) (fun _ _ => 0)
        case atStart => exact ⟨rfl, rfl⟩
        case round =>
          obtain ⟨rfl, rfl⟩ := hrel
          have hM0 : (0 : Int) < (M : Int) := by omega
          go_wp2_with fail
          exact ⟨⟨k + 1, hlt, by go_num, hd, z', by go_num, hzz, z0, z1⟩, by simp [intOf]; omega⟩
      · have hn1b : ((n1 : Int) == 0) = false := by rw [beq_eq_false_iff_ne]; omega
        have hn1p : (0 : Int) < (n1 : Int) := by omega
        have hn1q : 0 < n1 := by omega
        have hnn : e.1 ≠ [] := fun h0 => hn0 (by rw [hn1.out, h0]; rfl)
        have hzz : Hid (z = sumE (G.take (k + 1))) := by
          show _ = _
          rw [hsn, hz.out]; unfold vE; rw [if_neg hnn, Int.add_zero]
        obtain ⟨B, mB, dB, hct, hcl⟩ := tail_ints (A := A1) (c := c1) (xs := e.1) (k := 1) (by have := hn1.out; omega) (by have := hu.len_le; exact this)
        rw [← hn1.out] at hct hcl
        have hct' : ∀ W, (Instr.slice 25 (.slice A1 n1 c1) (some (.int .i64 1)) none none).run Tryd.prog W = .ok (.slice B mB dB) W := hct
        have HE := Lib.hid (fun (W : World) (kk : Bw wr W) => hcl W _ (hu.rd.after kk))
        have E0 := Lib.hid (fun (W : World) (kk : Bw wr W) => bw_cell kk e0)
        have E1 := Lib.hid (fun (W : World) (kk : Bw wr W) => bw_cell kk e1)
        have E2 := Lib.hid (fun (W : World) (kk : Bw wr W) => bw_cell kk e2)
        have HMO := Lib.hid (fun f hf h1 h2 => HK.out.mono e (List.mem_of_getElem? he.out) f hf h1 h2 hnn)
        clear hu hsn hpk hnn hct hcl
        go_wp2_with fail
        rename World => W3
        go_loopw [9] (fun j wq => ∃ p : Nat, p ≤ M ∧ j = .int .i64 p ∧ Bw W3 wq) (fun j _ => M - (intOf j).toNat)
        case atStart => exact ⟨0, Nat.zero_le _, rfl, Below.refl _ _⟩
        case round =>
          obtain ⟨p, hp, rfl, hdq⟩ := hrel
          have e0 := E0.out _ hdq
          have e1 := E1.out _ hdq
          have e2 := E2.out _ hdq
          by_cases hlt2 : p < M
          · have hlti : (p : Int) < (M : Int) := by omega
            obtain ⟨b', off', f, u2, hbb, hf, hfs, hfc, hu2, f0, f1, f2⟩ := (HG.out _ (hd.then hdq)).en (k := p) (by have := hM.out; omega)
            obtain ⟨rfl, rfl⟩ : b = b' ∧ off = off' := by cases hbb; exact ⟨rfl, rfl⟩
            clear hbb
            obtain ⟨A2, n2, c2, rfl, _, _, hn2⟩ := hu2.form'
            have HU2 := Lib.hid hu2.rd
            have K0 : ∀ W, Bw wr W → (W.cell? ⟨b, off + p * 3, none⟩ = some (.slice A2 n2 c2) ∧ W.cell? ⟨b, off + p * 3 + 1, none⟩ = some (.string f.2.1) ∧ W.cell? ⟨b, off + p * 3 + 2, none⟩ = some (.int .i64 f.2.2) ∧ W.cell? ⟨b, off + k * 3, none⟩ = some (.slice A1 n1 c1) ∧ W.cell? ⟨b, off + k * 3 + 1, none⟩ = some (.string e.2.1) ∧ W.cell? ⟨b, off + k * 3 + 2, none⟩ = some (.int .i64 e.2.2)) := fun W kk =>
              ⟨bw_cell kk f0, bw_cell kk f1, bw_cell kk f2, bw_cell kk e0, bw_cell kk e1, bw_cell kk e2⟩
            have HSI := Lib.hid (fun (W : World) (kk : Bw wr W) => sameInts_any (HU2.out.after kk) (HE.out W (hdq.then kk)))
            have hfm := List.mem_of_getElem? hf.out
            by_cases ht : f.2.1 = e.2.1
            · have hts := bool_str_eq ht
              cases hsm : same f.1 (e.1.drop 1)
              · rw [hsm] at HSI
                clear hu2 f0 f1 f2 hsm ht
                go_wp2_with fail
                refine wp_region_held_drew (S := fun u => u.cell? ⟨b, off + p * 3, none⟩ = some (.slice A2 n2 c2) ∧ u.cell? ⟨b, off + p * 3 + 1, none⟩ = some (.string f.2.1) ∧ u.cell? ⟨b, off + p * 3 + 2, none⟩ = some (.int .i64 f.2.2) ∧ u.cell? ⟨b, off + k * 3, none⟩ = some (.slice A1 n1 c1) ∧ u.cell? ⟨b, off + k * 3 + 1, none⟩ = some (.string e.2.1) ∧ u.cell? ⟨b, off + k * 3 + 2, none⟩ = some (.int .i64 e.2.2)) (by kernel_rfl) ?_ (fun hHeld => ?_)
                · exact K0 _ (Bw.drew (Below.refl _ _))
                refine wpAnyH_take (i := 0) (oi := { dst := some 64, op := Go.Op.move (Go.Operand.tmp 5), type := 28, pos := "law.go:115", after := #[], guard := none }) (v := ?v16) rfl (by kernel_rfl) (by kernel_rfl) (by kernel_rfl) (fun _ _ _ h => h) (Or.inl ⟨by rfl, ?hy16⟩) (by assumption) ?_
                case hy16 => (intro w hSw; (try dsimp only at hSw); go_simp; try with_reducible rfl)
                try simp only [Act.put, List.setIfInBounds_toArray, List.set_cons_zero, List.set_cons_succ]
                refine wpAnyH_take (i := 1) (oi := { dst := some 65, op := Go.Op.move (Go.Operand.tmp 9), type := 3, pos := "law.go:115", after := #[], guard := none }) (v := ?v17) rfl (by kernel_rfl) (by kernel_rfl) (by kernel_rfl) (fun _ _ _ h => h) (Or.inl ⟨by rfl, ?hy17⟩) (by assumption) ?_
                case hy17 => (intro w hSw; (try dsimp only at hSw); go_simp; try with_reducible rfl)
                try simp only [Act.put, List.setIfInBounds_toArray, List.set_cons_zero, List.set_cons_succ]
                refine wpAnyH_take (i := 2) (oi := { dst := some 66, op := Go.Op.indexAddr 28 (Go.Operand.tmp 64) (Go.Operand.tmp 65), type := 0, pos := "law.go:115", after := #[{ on := 0, ground := Go.Ground.data }, { on := 1, ground := Go.Ground.data }], guard := none }) (v := ?v18) rfl (by kernel_rfl) (by kernel_rfl) (by kernel_rfl) (fun _ _ _ h => h) (Or.inl ⟨by rfl, ?hy18⟩) (by assumption) ?_
                case hy18 => (intro w hSw; (try dsimp only at hSw); go_simp; try with_reducible rfl)
                try simp only [Act.put, List.setIfInBounds_toArray, List.set_cons_zero, List.set_cons_succ]
                refine wpAnyH_take (i := 3) (oi := { dst := some 67, op := Go.Op.fieldAddr 37 (Go.Operand.tmp 66) 1, type := 0, pos := "law.go:115", after := #[{ on := 2, ground := Go.Ground.data }], guard := none }) (v := ?v19) rfl (by kernel_rfl) (by kernel_rfl) (by kernel_rfl) (fun _ _ _ h => h) (Or.inl ⟨by rfl, ?hy19⟩) (by assumption) ?_
                case hy19 => (intro w hSw; (try dsimp only at hSw); go_simp; try with_reducible rfl)
                try simp only [Act.put, List.setIfInBounds_toArray, List.set_cons_zero, List.set_cons_succ]
                refine wpAnyH_take (i := 4) (oi := { dst := some 68, op := Go.Op.load 9 (Go.Operand.tmp 67), type := 9, pos := "law.go:115", after := #[{ on := 3, ground := Go.Ground.data }], guard := none }) (v := ?v20) rfl (by kernel_rfl) (by kernel_rfl) (by kernel_rfl) (fun _ _ _ h => h) (Or.inl ⟨by rfl, ?hy20⟩) (by assumption) ?_
                case hy20 => (intro w hSw; (try dsimp only at hSw); go_simp; try with_reducible rfl)
                try simp only [Act.put, List.setIfInBounds_toArray, List.set_cons_zero, List.set_cons_succ]
                refine wpAnyH_take (i := 5) (oi := { dst := some 69, op := Go.Op.move (Go.Operand.tmp 5), type := 28, pos := "law.go:115", after := #[], guard := none }) (v := ?v21) rfl (by kernel_rfl) (by kernel_rfl) (by kernel_rfl) (fun _ _ _ h => h) (Or.inl ⟨by rfl, ?hy21⟩) (by assumption) ?_
                case hy21 => (intro w hSw; (try dsimp only at hSw); go_simp; try with_reducible rfl)
                try simp only [Act.put, List.setIfInBounds_toArray, List.set_cons_zero, List.set_cons_succ]
                refine wpAnyH_take (i := 6) (oi := { dst := some 70, op := Go.Op.move (Go.Operand.tmp 8), type := 3, pos := "law.go:115", after := #[], guard := none }) (v := ?v22) rfl (by kernel_rfl) (by kernel_rfl) (by kernel_rfl) (fun _ _ _ h => h) (Or.inl ⟨by rfl, ?hy22⟩) (by assumption) ?_
                case hy22 => (intro w hSw; (try dsimp only at hSw); go_simp; try with_reducible rfl)
                try simp only [Act.put, List.setIfInBounds_toArray, List.set_cons_zero, List.set_cons_succ]
                refine wpAnyH_take (i := 7) (oi := { dst := some 71, op := Go.Op.indexAddr 28 (Go.Operand.tmp 69) (Go.Operand.tmp 70), type := 0, pos := "law.go:115", after := #[{ on := 5, ground := Go.Ground.data }, { on := 6, ground := Go.Ground.data }], guard := none }) (v := ?v23) rfl (by kernel_rfl) (by kernel_rfl) (by kernel_rfl) (fun _ _ _ h => h) (Or.inl ⟨by rfl, ?hy23⟩) (by assumption) ?_
                case hy23 => (intro w hSw; (try dsimp only at hSw); go_simp; try with_reducible rfl)
                try simp only [Act.put, List.setIfInBounds_toArray, List.set_cons_zero, List.set_cons_succ]
                refine wpAnyH_take (i := 8) (oi := { dst := some 72, op := Go.Op.fieldAddr 37 (Go.Operand.tmp 71) 1, type := 0, pos := "law.go:115", after := #[{ on := 7, ground := Go.Ground.data }], guard := none }) (v := ?v24) rfl (by kernel_rfl) (by kernel_rfl) (by kernel_rfl) (fun _ _ _ h => h) (Or.inl ⟨by rfl, ?hy24⟩) (by assumption) ?_
                case hy24 => (intro w hSw; (try dsimp only at hSw); go_simp; try with_reducible rfl)
                try simp only [Act.put, List.setIfInBounds_toArray, List.set_cons_zero, List.set_cons_succ]
                refine wpAnyH_take (i := 9) (oi := { dst := some 73, op := Go.Op.load 9 (Go.Operand.tmp 72), type := 9, pos := "law.go:115", after := #[{ on := 8, ground := Go.Ground.data }], guard := none }) (v := ?v25) rfl (by kernel_rfl) (by kernel_rfl) (by kernel_rfl) (fun _ _ _ h => h) (Or.inl ⟨by rfl, ?hy25⟩) (by assumption) ?_
                case hy25 => (intro w hSw; (try dsimp only at hSw); go_simp; try with_reducible rfl)
                try simp only [Act.put, List.setIfInBounds_toArray, List.set_cons_zero, List.set_cons_succ]
                refine wpAnyH_take (i := 10) (oi := { dst := some 74, op := Go.Op.binOp Go.BinOp.eql 9 (Go.Operand.tmp 68) (Go.Operand.tmp 73) 9, type := 4, pos := "law.go:115", after := #[{ on := 4, ground := Go.Ground.data }, { on := 9, ground := Go.Ground.data }], guard := none }) (v := Value.bool true) rfl (by kernel_rfl) (by kernel_rfl) (by kernel_rfl) (fun _ _ _ h => h) (Or.inl ⟨by rfl, ?hy26⟩) (by assumption) ?_
                case hy26 => (intro w hSw; (try dsimp only at hSw); go_simp)
                try simp only [Act.put, List.setIfInBounds_toArray, List.set_cons_zero, List.set_cons_succ]
                refine wpAnyH_take (i := 11) (oi := { dst := some 75, op := Go.Op.move (Go.Operand.tmp 74), type := 4, pos := "law.go:115", after := #[{ on := 10, ground := Go.Ground.data }], guard := none }) (v := ?v27) rfl (by kernel_rfl) (by kernel_rfl) (by kernel_rfl) (fun _ _ _ h => h) (Or.inl ⟨by rfl, ?hy27⟩) (by assumption) ?_
                case hy27 => (intro w hSw; (try dsimp only at hSw); go_simp; try with_reducible rfl)
                try simp only [Act.put, List.setIfInBounds_toArray, List.set_cons_zero, List.set_cons_succ]
                refine wpAnyH_take (i := 12) (oi := { dst := some 76, op := Go.Op.move (Go.Operand.tmp 5), type := 28, pos := "law.go:115", after := #[{ on := 11, ground := Go.Ground.guard }], guard := some (11, true) }) (v := ?v28) rfl (by kernel_rfl) (by kernel_rfl) (by kernel_rfl) (fun _ _ _ h => h) (Or.inl ⟨by rfl, ?hy28⟩) (by assumption) ?_
                case hy28 => (intro w hSw; (try dsimp only at hSw); go_simp; try with_reducible rfl)
                try simp only [Act.put, List.setIfInBounds_toArray, List.set_cons_zero, List.set_cons_succ]
                refine wpAnyH_take (i := 13) (oi := { dst := some 77, op := Go.Op.move (Go.Operand.tmp 9), type := 3, pos := "law.go:115", after := #[{ on := 11, ground := Go.Ground.guard }], guard := some (11, true) }) (v := ?v29) rfl (by kernel_rfl) (by kernel_rfl) (by kernel_rfl) (fun _ _ _ h => h) (Or.inl ⟨by rfl, ?hy29⟩) (by assumption) ?_
                case hy29 => (intro w hSw; (try dsimp only at hSw); go_simp; try with_reducible rfl)
                try simp only [Act.put, List.setIfInBounds_toArray, List.set_cons_zero, List.set_cons_succ]
                refine wpAnyH_take (i := 14) (oi := { dst := some 78, op := Go.Op.indexAddr 28 (Go.Operand.tmp 76) (Go.Operand.tmp 77), type := 0, pos := "law.go:115", after := #[{ on := 12, ground := Go.Ground.data }, { on := 13, ground := Go.Ground.data }, { on := 11, ground := Go.Ground.guard }], guard := some (11, true) }) (v := ?v30) rfl (by kernel_rfl) (by kernel_rfl) (by kernel_rfl) (fun _ _ _ h => h) (Or.inl ⟨by rfl, ?hy30⟩) (by assumption) ?_
                case hy30 => (intro w hSw; (try dsimp only at hSw); go_simp; try with_reducible rfl)
                try simp only [Act.put, List.setIfInBounds_toArray, List.set_cons_zero, List.set_cons_succ]
                refine wpAnyH_take (i := 15) (oi := { dst := some 79, op := Go.Op.fieldAddr 37 (Go.Operand.tmp 78) 0, type := 0, pos := "law.go:115", after := #[{ on := 14, ground := Go.Ground.data }, { on := 11, ground := Go.Ground.guard }], guard := some (11, true) }) (v := ?v31) rfl (by kernel_rfl) (by kernel_rfl) (by kernel_rfl) (fun _ _ _ h => h) (Or.inl ⟨by rfl, ?hy31⟩) (by assumption) ?_
                case hy31 => (intro w hSw; (try dsimp only at hSw); go_simp; try with_reducible rfl)
                try simp only [Act.put, List.setIfInBounds_toArray, List.set_cons_zero, List.set_cons_succ]
                refine wpAnyH_take (i := 16) (oi := { dst := some 80, op := Go.Op.load 25 (Go.Operand.tmp 79), type := 25, pos := "law.go:115", after := #[{ on := 15, ground := Go.Ground.data }, { on := 11, ground := Go.Ground.guard }], guard := some (11, true) }) (v := ?v32) rfl (by kernel_rfl) (by kernel_rfl) (by kernel_rfl) (fun _ _ _ h => h) (Or.inl ⟨by rfl, ?hy32⟩) (by assumption) ?_
                case hy32 => (intro w hSw; (try dsimp only at hSw); go_simp; try with_reducible rfl)
                try simp only [Act.put, List.setIfInBounds_toArray, List.set_cons_zero, List.set_cons_succ]
                refine wpAnyH_take (i := 17) (oi := { dst := some 81, op := Go.Op.move (Go.Operand.tmp 5), type := 28, pos := "law.go:115", after := #[{ on := 11, ground := Go.Ground.guard }], guard := some (11, true) }) (v := ?v33) rfl (by kernel_rfl) (by kernel_rfl) (by kernel_rfl) (fun _ _ _ h => h) (Or.inl ⟨by rfl, ?hy33⟩) (by assumption) ?_
                case hy33 => (intro w hSw; (try dsimp only at hSw); go_simp; try with_reducible rfl)
                try simp only [Act.put, List.setIfInBounds_toArray, List.set_cons_zero, List.set_cons_succ]
                refine wpAnyH_take (i := 18) (oi := { dst := some 82, op := Go.Op.move (Go.Operand.tmp 8), type := 3, pos := "law.go:115", after := #[{ on := 11, ground := Go.Ground.guard }], guard := some (11, true) }) (v := ?v34) rfl (by kernel_rfl) (by kernel_rfl) (by kernel_rfl) (fun _ _ _ h => h) (Or.inl ⟨by rfl, ?hy34⟩) (by assumption) ?_
                case hy34 => (intro w hSw; (try dsimp only at hSw); go_simp; try with_reducible rfl)
                try simp only [Act.put, List.setIfInBounds_toArray, List.set_cons_zero, List.set_cons_succ]
                refine wpAnyH_take (i := 19) (oi := { dst := some 83, op := Go.Op.indexAddr 28 (Go.Operand.tmp 81) (Go.Operand.tmp 82), type := 0, pos := "law.go:115", after := #[{ on := 17, ground := Go.Ground.data }, { on := 18, ground := Go.Ground.data }, { on := 11, ground := Go.Ground.guard }], guard := some (11, true) }) (v := ?v35) rfl (by kernel_rfl) (by kernel_rfl) (by kernel_rfl) (fun _ _ _ h => h) (Or.inl ⟨by rfl, ?hy35⟩) (by assumption) ?_
                case hy35 => (intro w hSw; (try dsimp only at hSw); go_simp; try with_reducible rfl)
                try simp only [Act.put, List.setIfInBounds_toArray, List.set_cons_zero, List.set_cons_succ]
                refine wpAnyH_take (i := 20) (oi := { dst := some 84, op := Go.Op.fieldAddr 37 (Go.Operand.tmp 83) 0, type := 0, pos := "law.go:115", after := #[{ on := 19, ground := Go.Ground.data }, { on := 11, ground := Go.Ground.guard }], guard := some (11, true) }) (v := ?v36) rfl (by kernel_rfl) (by kernel_rfl) (by kernel_rfl) (fun _ _ _ h => h) (Or.inl ⟨by rfl, ?hy36⟩) (by assumption) ?_
                case hy36 => (intro w hSw; (try dsimp only at hSw); go_simp; try with_reducible rfl)
                try simp only [Act.put, List.setIfInBounds_toArray, List.set_cons_zero, List.set_cons_succ]
                refine wpAnyH_take (i := 21) (oi := { dst := some 85, op := Go.Op.load 25 (Go.Operand.tmp 84), type := 25, pos := "law.go:115", after := #[{ on := 20, ground := Go.Ground.data }, { on := 11, ground := Go.Ground.guard }], guard := some (11, true) }) (v := ?v37) rfl (by kernel_rfl) (by kernel_rfl) (by kernel_rfl) (fun _ _ _ h => h) (Or.inl ⟨by rfl, ?hy37⟩) (by assumption) ?_
                case hy37 => (intro w hSw; (try dsimp only at hSw); go_simp; try with_reducible rfl)
                try simp only [Act.put, List.setIfInBounds_toArray, List.set_cons_zero, List.set_cons_succ]
                refine wpAnyH_take (i := 22) (oi := { dst := some 86, op := Go.Op.slice 25 (Go.Operand.tmp 85) (some (Go.Operand.const (Go.Value.int Go.IntKind.i64 1))) none none, type := 25, pos := "law.go:115", after := #[{ on := 21, ground := Go.Ground.data }, { on := 11, ground := Go.Ground.guard }], guard := some (11, true) }) (v := Value.slice B mB dB) rfl (by kernel_rfl) (by kernel_rfl) (by kernel_rfl) (fun _ _ _ h => h) (Or.inl ⟨by rfl, ?hy38⟩) (by assumption) ?_
                case hy38 => (intro w hSw; exact y_slice25 _ _ rfl rfl rfl (hct' w))
                try simp only [Act.put, List.setIfInBounds_toArray, List.set_cons_zero, List.set_cons_succ]
                refine wpAnyH_ready (rs := [23]) (by kernel_rfl) (by simp) ?_
                refine (AllReadyH.cons (i := 23) (o := { dst := some 87, op := Go.Op.call { callee := Go.Callee.value (Go.Operand.func 20), args := #[Go.Operand.tmp 80, Go.Operand.tmp 86], argTypes := #[25, 25] }, type := 4, pos := "law.go:115", after := #[{ on := 16, ground := Go.Ground.data }, { on := 22, ground := Go.Ground.data }, { on := 11, ground := Go.Ground.chain }, { on := 11, ground := Go.Ground.guard }], guard := some (11, true) }) rfl (fun K' hK' => ?_) AllReadyH.nil)
                go_simp
                with_reducible refine (HSI.out _ (Bw.drew (Below.refl _ _))).mono ?_
                rintro e' wA ⟨rfl, hdA⟩
                have hbA' := (Bw.drew (Below.refl _ wr)).then hdA.bw
                try dsimp only
                refine hK'.out _ _ ?_ (fun hHeld => ?_)
                · exact K0 _ hbA'
                clear hK' K'
                try simp only [Act.put, List.setIfInBounds_toArray, List.set_cons_zero, List.set_cons_succ]
                refine wpAnyH_take (i := 24) (oi := { dst := some 88, op := Go.Op.pick (Go.Operand.tmp 75) (Go.Operand.tmp 87) (Go.Operand.const (Go.Value.bool false)), type := 4, pos := "law.go:115", after := #[{ on := 11, ground := Go.Ground.data }, { on := 23, ground := Go.Ground.data }], guard := none }) (v := ?v39) rfl (by kernel_rfl) (by kernel_rfl) (by kernel_rfl) (fun _ _ _ h => h) (Or.inl ⟨by rfl, ?hy39⟩) (by assumption) ?_
                case hy39 => (intro w hSw; (try dsimp only at hSw); go_simp; try with_reducible rfl)
                try simp only [Act.put, List.setIfInBounds_toArray, List.set_cons_zero, List.set_cons_succ]
                refine wpAnyH_take (i := 25) (oi := { dst := some 89, op := Go.Op.move (Go.Operand.tmp 88), type := 4, pos := "law.go:115", after := #[{ on := 24, ground := Go.Ground.data }, { on := 23, ground := Go.Ground.chain }], guard := none }) (v := ?v40) rfl (by kernel_rfl) (by kernel_rfl) (by kernel_rfl) (fun _ _ _ h => h) (Or.inl ⟨by rfl, ?hy40⟩) (by assumption) ?_
                case hy40 => (intro w hSw; (try dsimp only at hSw); go_simp; try with_reducible rfl)
                try simp only [Act.put, List.setIfInBounds_toArray, List.set_cons_zero, List.set_cons_succ]
                refine wpAnyH_take (i := 26) (oi := { dst := some 90, op := Go.Op.move (Go.Operand.tmp 5), type := 28, pos := "law.go:115", after := #[{ on := 25, ground := Go.Ground.guard }], guard := some (25, true) }) (v := undef) rfl (by kernel_rfl) (by kernel_rfl) (by kernel_rfl) (fun _ _ _ h => h) (Or.inr ⟨by rfl, rfl⟩) (by assumption) ?_
                try simp only [Act.put, List.setIfInBounds_toArray, List.set_cons_zero, List.set_cons_succ]
                refine wpAnyH_take (i := 27) (oi := { dst := some 91, op := Go.Op.move (Go.Operand.tmp 9), type := 3, pos := "law.go:115", after := #[{ on := 25, ground := Go.Ground.guard }], guard := some (25, true) }) (v := undef) rfl (by kernel_rfl) (by kernel_rfl) (by kernel_rfl) (fun _ _ _ h => h) (Or.inr ⟨by rfl, rfl⟩) (by assumption) ?_
                try simp only [Act.put, List.setIfInBounds_toArray, List.set_cons_zero, List.set_cons_succ]
                refine wpAnyH_take (i := 28) (oi := { dst := some 92, op := Go.Op.indexAddr 28 (Go.Operand.tmp 90) (Go.Operand.tmp 91), type := 0, pos := "law.go:115", after := #[{ on := 26, ground := Go.Ground.data }, { on := 27, ground := Go.Ground.data }, { on := 25, ground := Go.Ground.guard }], guard := some (25, true) }) (v := undef) rfl (by kernel_rfl) (by kernel_rfl) (by kernel_rfl) (fun _ _ _ h => h) (Or.inr ⟨by rfl, rfl⟩) (by assumption) ?_
                try simp only [Act.put, List.setIfInBounds_toArray, List.set_cons_zero, List.set_cons_succ]
                refine wpAnyH_take (i := 29) (oi := { dst := some 93, op := Go.Op.fieldAddr 37 (Go.Operand.tmp 92) 2, type := 0, pos := "law.go:115", after := #[{ on := 28, ground := Go.Ground.data }, { on := 25, ground := Go.Ground.guard }], guard := some (25, true) }) (v := undef) rfl (by kernel_rfl) (by kernel_rfl) (by kernel_rfl) (fun _ _ _ h => h) (Or.inr ⟨by rfl, rfl⟩) (by assumption) ?_
                try simp only [Act.put, List.setIfInBounds_toArray, List.set_cons_zero, List.set_cons_succ]
                refine wpAnyH_take (i := 30) (oi := { dst := some 94, op := Go.Op.load 3 (Go.Operand.tmp 93), type := 3, pos := "law.go:115", after := #[{ on := 29, ground := Go.Ground.data }, { on := 25, ground := Go.Ground.guard }], guard := some (25, true) }) (v := undef) rfl (by kernel_rfl) (by kernel_rfl) (by kernel_rfl) (fun _ _ _ h => h) (Or.inr ⟨by rfl, rfl⟩) (by assumption) ?_
                try simp only [Act.put, List.setIfInBounds_toArray, List.set_cons_zero, List.set_cons_succ]
                refine wpAnyH_take (i := 31) (oi := { dst := some 95, op := Go.Op.move (Go.Operand.tmp 5), type := 28, pos := "law.go:115", after := #[{ on := 25, ground := Go.Ground.guard }], guard := some (25, true) }) (v := undef) rfl (by kernel_rfl) (by kernel_rfl) (by kernel_rfl) (fun _ _ _ h => h) (Or.inr ⟨by rfl, rfl⟩) (by assumption) ?_
                try simp only [Act.put, List.setIfInBounds_toArray, List.set_cons_zero, List.set_cons_succ]
                refine wpAnyH_take (i := 32) (oi := { dst := some 96, op := Go.Op.move (Go.Operand.tmp 8), type := 3, pos := "law.go:115", after := #[{ on := 25, ground := Go.Ground.guard }], guard := some (25, true) }) (v := undef) rfl (by kernel_rfl) (by kernel_rfl) (by kernel_rfl) (fun _ _ _ h => h) (Or.inr ⟨by rfl, rfl⟩) (by assumption) ?_
                try simp only [Act.put, List.setIfInBounds_toArray, List.set_cons_zero, List.set_cons_succ]
                refine wpAnyH_take (i := 33) (oi := { dst := some 97, op := Go.Op.indexAddr 28 (Go.Operand.tmp 95) (Go.Operand.tmp 96), type := 0, pos := "law.go:115", after := #[{ on := 31, ground := Go.Ground.data }, { on := 32, ground := Go.Ground.data }, { on := 25, ground := Go.Ground.guard }], guard := some (25, true) }) (v := undef) rfl (by kernel_rfl) (by kernel_rfl) (by kernel_rfl) (fun _ _ _ h => h) (Or.inr ⟨by rfl, rfl⟩) (by assumption) ?_
                try simp only [Act.put, List.setIfInBounds_toArray, List.set_cons_zero, List.set_cons_succ]
                refine wpAnyH_take (i := 34) (oi := { dst := some 98, op := Go.Op.fieldAddr 37 (Go.Operand.tmp 97) 2, type := 0, pos := "law.go:115", after := #[{ on := 33, ground := Go.Ground.data }, { on := 25, ground := Go.Ground.guard }], guard := some (25, true) }) (v := undef) rfl (by kernel_rfl) (by kernel_rfl) (by kernel_rfl) (fun _ _ _ h => h) (Or.inr ⟨by rfl, rfl⟩) (by assumption) ?_
                try simp only [Act.put, List.setIfInBounds_toArray, List.set_cons_zero, List.set_cons_succ]
                refine wpAnyH_take (i := 35) (oi := { dst := some 99, op := Go.Op.load 3 (Go.Operand.tmp 98), type := 3, pos := "law.go:115", after := #[{ on := 34, ground := Go.Ground.data }, { on := 25, ground := Go.Ground.guard }], guard := some (25, true) }) (v := undef) rfl (by kernel_rfl) (by kernel_rfl) (by kernel_rfl) (fun _ _ _ h => h) (Or.inr ⟨by rfl, rfl⟩) (by assumption) ?_
                try simp only [Act.put, List.setIfInBounds_toArray, List.set_cons_zero, List.set_cons_succ]
                refine wpAnyH_take (i := 36) (oi := { dst := some 100, op := Go.Op.binOp Go.BinOp.lss 3 (Go.Operand.tmp 94) (Go.Operand.tmp 99) 3, type := 4, pos := "law.go:115", after := #[{ on := 30, ground := Go.Ground.data }, { on := 35, ground := Go.Ground.data }, { on := 25, ground := Go.Ground.guard }], guard := some (25, true) }) (v := undef) rfl (by kernel_rfl) (by kernel_rfl) (by kernel_rfl) (fun _ _ _ h => h) (Or.inr ⟨by rfl, rfl⟩) (by assumption) ?_
                try simp only [Act.put, List.setIfInBounds_toArray, List.set_cons_zero, List.set_cons_succ]
                refine wpAnyH_take (i := 37) (oi := { dst := some 101, op := Go.Op.pick (Go.Operand.tmp 89) (Go.Operand.tmp 100) (Go.Operand.const (Go.Value.bool false)), type := 4, pos := "law.go:115", after := #[{ on := 25, ground := Go.Ground.data }, { on := 36, ground := Go.Ground.data }], guard := none }) (v := ?v41) rfl (by kernel_rfl) (by kernel_rfl) (by kernel_rfl) (fun _ _ _ h => h) (Or.inl ⟨by rfl, ?hy41⟩) (by assumption) ?_
                case hy41 => (intro w hSw; (try dsimp only at hSw); go_simp; try with_reducible rfl)
                try simp only [Act.put, List.setIfInBounds_toArray, List.set_cons_zero, List.set_cons_succ]
                refine wpAnyH_done (by kernel_rfl) ?_ _
                go_wp2_with fail
                exact ⟨⟨p + 1, hlt2, by go_num, hdq.then hbA'⟩, by simp [intOf]; omega⟩
              · have hno : ¬ f.2.2 < e.2.2 := by
                  have h9 := HMO.out f hfm ht (by unfold same at hsm; rwa [decide_eq_true_iff] at hsm)
                  omega
                have hnod := decide_eq_false hno
                rw [hsm] at HSI
                clear hu2 f0 f1 f2 hsm ht
                go_wp2_with fail
                refine wp_region_held_drew (S := fun u => u.cell? ⟨b, off + p * 3, none⟩ = some (.slice A2 n2 c2) ∧ u.cell? ⟨b, off + p * 3 + 1, none⟩ = some (.string f.2.1) ∧ u.cell? ⟨b, off + p * 3 + 2, none⟩ = some (.int .i64 f.2.2) ∧ u.cell? ⟨b, off + k * 3, none⟩ = some (.slice A1 n1 c1) ∧ u.cell? ⟨b, off + k * 3 + 1, none⟩ = some (.string e.2.1) ∧ u.cell? ⟨b, off + k * 3 + 2, none⟩ = some (.int .i64 e.2.2)) (by kernel_rfl) ?_ (fun hHeld => ?_)
                · exact K0 _ (Bw.drew (Below.refl _ _))
                refine wpAnyH_take (i := 0) (oi := { dst := some 64, op := Go.Op.move (Go.Operand.tmp 5), type := 28, pos := "law.go:115", after := #[], guard := none }) (v := ?v42) rfl (by kernel_rfl) (by kernel_rfl) (by kernel_rfl) (fun _ _ _ h => h) (Or.inl ⟨by rfl, ?hy42⟩) (by assumption) ?_
                case hy42 => (intro w hSw; (try dsimp only at hSw); go_simp; try with_reducible rfl)
                try simp only [Act.put, List.setIfInBounds_toArray, List.set_cons_zero, List.set_cons_succ]
                refine wpAnyH_take (i := 1) (oi := { dst := some 65, op := Go.Op.move (Go.Operand.tmp 9), type := 3, pos := "law.go:115", after := #[], guard := none }) (v := ?v43) rfl (by kernel_rfl) (by kernel_rfl) (by kernel_rfl) (fun _ _ _ h => h) (Or.inl ⟨by rfl, ?hy43⟩) (by assumption) ?_
                case hy43 => (intro w hSw; (try dsimp only at hSw); go_simp; try with_reducible rfl)
                try simp only [Act.put, List.setIfInBounds_toArray, List.set_cons_zero, List.set_cons_succ]
                refine wpAnyH_take (i := 2) (oi := { dst := some 66, op := Go.Op.indexAddr 28 (Go.Operand.tmp 64) (Go.Operand.tmp 65), type := 0, pos := "law.go:115", after := #[{ on := 0, ground := Go.Ground.data }, { on := 1, ground := Go.Ground.data }], guard := none }) (v := ?v44) rfl (by kernel_rfl) (by kernel_rfl) (by kernel_rfl) (fun _ _ _ h => h) (Or.inl ⟨by rfl, ?hy44⟩) (by assumption) ?_
                case hy44 => (intro w hSw; (try dsimp only at hSw); go_simp; try with_reducible rfl)
                try simp only [Act.put, List.setIfInBounds_toArray, List.set_cons_zero, List.set_cons_succ]
                refine wpAnyH_take (i := 3) (oi := { dst := some 67, op := Go.Op.fieldAddr 37 (Go.Operand.tmp 66) 1, type := 0, pos := "law.go:115", after := #[{ on := 2, ground := Go.Ground.data }], guard := none }) (v := ?v45) rfl (by kernel_rfl) (by kernel_rfl) (by kernel_rfl) (fun _ _ _ h => h) (Or.inl ⟨by rfl, ?hy45⟩) (by assumption) ?_
                case hy45 => (intro w hSw; (try dsimp only at hSw); go_simp; try with_reducible rfl)
                try simp only [Act.put, List.setIfInBounds_toArray, List.set_cons_zero, List.set_cons_succ]
                refine wpAnyH_take (i := 4) (oi := { dst := some 68, op := Go.Op.load 9 (Go.Operand.tmp 67), type := 9, pos := "law.go:115", after := #[{ on := 3, ground := Go.Ground.data }], guard := none }) (v := ?v46) rfl (by kernel_rfl) (by kernel_rfl) (by kernel_rfl) (fun _ _ _ h => h) (Or.inl ⟨by rfl, ?hy46⟩) (by assumption) ?_
                case hy46 => (intro w hSw; (try dsimp only at hSw); go_simp; try with_reducible rfl)
                try simp only [Act.put, List.setIfInBounds_toArray, List.set_cons_zero, List.set_cons_succ]
                refine wpAnyH_take (i := 5) (oi := { dst := some 69, op := Go.Op.move (Go.Operand.tmp 5), type := 28, pos := "law.go:115", after := #[], guard := none }) (v := ?v47) rfl (by kernel_rfl) (by kernel_rfl) (by kernel_rfl) (fun _ _ _ h => h) (Or.inl ⟨by rfl, ?hy47⟩) (by assumption) ?_
                case hy47 => (intro w hSw; (try dsimp only at hSw); go_simp; try with_reducible rfl)
                try simp only [Act.put, List.setIfInBounds_toArray, List.set_cons_zero, List.set_cons_succ]
                refine wpAnyH_take (i := 6) (oi := { dst := some 70, op := Go.Op.move (Go.Operand.tmp 8), type := 3, pos := "law.go:115", after := #[], guard := none }) (v := ?v48) rfl (by kernel_rfl) (by kernel_rfl) (by kernel_rfl) (fun _ _ _ h => h) (Or.inl ⟨by rfl, ?hy48⟩) (by assumption) ?_
                case hy48 => (intro w hSw; (try dsimp only at hSw); go_simp; try with_reducible rfl)
                try simp only [Act.put, List.setIfInBounds_toArray, List.set_cons_zero, List.set_cons_succ]
                refine wpAnyH_take (i := 7) (oi := { dst := some 71, op := Go.Op.indexAddr 28 (Go.Operand.tmp 69) (Go.Operand.tmp 70), type := 0, pos := "law.go:115", after := #[{ on := 5, ground := Go.Ground.data }, { on := 6, ground := Go.Ground.data }], guard := none }) (v := ?v49) rfl (by kernel_rfl) (by kernel_rfl) (by kernel_rfl) (fun _ _ _ h => h) (Or.inl ⟨by rfl, ?hy49⟩) (by assumption) ?_
                case hy49 => (intro w hSw; (try dsimp only at hSw); go_simp; try with_reducible rfl)
                try simp only [Act.put, List.setIfInBounds_toArray, List.set_cons_zero, List.set_cons_succ]
                refine wpAnyH_take (i := 8) (oi := { dst := some 72, op := Go.Op.fieldAddr 37 (Go.Operand.tmp 71) 1, type := 0, pos := "law.go:115", after := #[{ on := 7, ground := Go.Ground.data }], guard := none }) (v := ?v50) rfl (by kernel_rfl) (by kernel_rfl) (by kernel_rfl) (fun _ _ _ h => h) (Or.inl ⟨by rfl, ?hy50⟩) (by assumption) ?_
                case hy50 => (intro w hSw; (try dsimp only at hSw); go_simp; try with_reducible rfl)
                try simp only [Act.put, List.setIfInBounds_toArray, List.set_cons_zero, List.set_cons_succ]
                refine wpAnyH_take (i := 9) (oi := { dst := some 73, op := Go.Op.load 9 (Go.Operand.tmp 72), type := 9, pos := "law.go:115", after := #[{ on := 8, ground := Go.Ground.data }], guard := none }) (v := ?v51) rfl (by kernel_rfl) (by kernel_rfl) (by kernel_rfl) (fun _ _ _ h => h) (Or.inl ⟨by rfl, ?hy51⟩) (by assumption) ?_
                case hy51 => (intro w hSw; (try dsimp only at hSw); go_simp; try with_reducible rfl)
                try simp only [Act.put, List.setIfInBounds_toArray, List.set_cons_zero, List.set_cons_succ]
                refine wpAnyH_take (i := 10) (oi := { dst := some 74, op := Go.Op.binOp Go.BinOp.eql 9 (Go.Operand.tmp 68) (Go.Operand.tmp 73) 9, type := 4, pos := "law.go:115", after := #[{ on := 4, ground := Go.Ground.data }, { on := 9, ground := Go.Ground.data }], guard := none }) (v := Value.bool true) rfl (by kernel_rfl) (by kernel_rfl) (by kernel_rfl) (fun _ _ _ h => h) (Or.inl ⟨by rfl, ?hy52⟩) (by assumption) ?_
                case hy52 => (intro w hSw; (try dsimp only at hSw); go_simp)
                try simp only [Act.put, List.setIfInBounds_toArray, List.set_cons_zero, List.set_cons_succ]
                refine wpAnyH_take (i := 11) (oi := { dst := some 75, op := Go.Op.move (Go.Operand.tmp 74), type := 4, pos := "law.go:115", after := #[{ on := 10, ground := Go.Ground.data }], guard := none }) (v := ?v53) rfl (by kernel_rfl) (by kernel_rfl) (by kernel_rfl) (fun _ _ _ h => h) (Or.inl ⟨by rfl, ?hy53⟩) (by assumption) ?_
                case hy53 => (intro w hSw; (try dsimp only at hSw); go_simp; try with_reducible rfl)
                try simp only [Act.put, List.setIfInBounds_toArray, List.set_cons_zero, List.set_cons_succ]
                refine wpAnyH_take (i := 12) (oi := { dst := some 76, op := Go.Op.move (Go.Operand.tmp 5), type := 28, pos := "law.go:115", after := #[{ on := 11, ground := Go.Ground.guard }], guard := some (11, true) }) (v := ?v54) rfl (by kernel_rfl) (by kernel_rfl) (by kernel_rfl) (fun _ _ _ h => h) (Or.inl ⟨by rfl, ?hy54⟩) (by assumption) ?_
                case hy54 => (intro w hSw; (try dsimp only at hSw); go_simp; try with_reducible rfl)
                try simp only [Act.put, List.setIfInBounds_toArray, List.set_cons_zero, List.set_cons_succ]
                refine wpAnyH_take (i := 13) (oi := { dst := some 77, op := Go.Op.move (Go.Operand.tmp 9), type := 3, pos := "law.go:115", after := #[{ on := 11, ground := Go.Ground.guard }], guard := some (11, true) }) (v := ?v55) rfl (by kernel_rfl) (by kernel_rfl) (by kernel_rfl) (fun _ _ _ h => h) (Or.inl ⟨by rfl, ?hy55⟩) (by assumption) ?_
                case hy55 => (intro w hSw; (try dsimp only at hSw); go_simp; try with_reducible rfl)
                try simp only [Act.put, List.setIfInBounds_toArray, List.set_cons_zero, List.set_cons_succ]
                refine wpAnyH_take (i := 14) (oi := { dst := some 78, op := Go.Op.indexAddr 28 (Go.Operand.tmp 76) (Go.Operand.tmp 77), type := 0, pos := "law.go:115", after := #[{ on := 12, ground := Go.Ground.data }, { on := 13, ground := Go.Ground.data }, { on := 11, ground := Go.Ground.guard }], guard := some (11, true) }) (v := ?v56) rfl (by kernel_rfl) (by kernel_rfl) (by kernel_rfl) (fun _ _ _ h => h) (Or.inl ⟨by rfl, ?hy56⟩) (by assumption) ?_
                case hy56 => (intro w hSw; (try dsimp only at hSw); go_simp; try with_reducible rfl)
                try simp only [Act.put, List.setIfInBounds_toArray, List.set_cons_zero, List.set_cons_succ]
                refine wpAnyH_take (i := 15) (oi := { dst := some 79, op := Go.Op.fieldAddr 37 (Go.Operand.tmp 78) 0, type := 0, pos := "law.go:115", after := #[{ on := 14, ground := Go.Ground.data }, { on := 11, ground := Go.Ground.guard }], guard := some (11, true) }) (v := ?v57) rfl (by kernel_rfl) (by kernel_rfl) (by kernel_rfl) (fun _ _ _ h => h) (Or.inl ⟨by rfl, ?hy57⟩) (by assumption) ?_
                case hy57 => (intro w hSw; (try dsimp only at hSw); go_simp; try with_reducible rfl)
                try simp only [Act.put, List.setIfInBounds_toArray, List.set_cons_zero, List.set_cons_succ]
                refine wpAnyH_take (i := 16) (oi := { dst := some 80, op := Go.Op.load 25 (Go.Operand.tmp 79), type := 25, pos := "law.go:115", after := #[{ on := 15, ground := Go.Ground.data }, { on := 11, ground := Go.Ground.guard }], guard := some (11, true) }) (v := ?v58) rfl (by kernel_rfl) (by kernel_rfl) (by kernel_rfl) (fun _ _ _ h => h) (Or.inl ⟨by rfl, ?hy58⟩) (by assumption) ?_
                case hy58 => (intro w hSw; (try dsimp only at hSw); go_simp; try with_reducible rfl)
                try simp only [Act.put, List.setIfInBounds_toArray, List.set_cons_zero, List.set_cons_succ]
                refine wpAnyH_take (i := 17) (oi := { dst := some 81, op := Go.Op.move (Go.Operand.tmp 5), type := 28, pos := "law.go:115", after := #[{ on := 11, ground := Go.Ground.guard }], guard := some (11, true) }) (v := ?v59) rfl (by kernel_rfl) (by kernel_rfl) (by kernel_rfl) (fun _ _ _ h => h) (Or.inl ⟨by rfl, ?hy59⟩) (by assumption) ?_
                case hy59 => (intro w hSw; (try dsimp only at hSw); go_simp; try with_reducible rfl)
                try simp only [Act.put, List.setIfInBounds_toArray, List.set_cons_zero, List.set_cons_succ]
                refine wpAnyH_take (i := 18) (oi := { dst := some 82, op := Go.Op.move (Go.Operand.tmp 8), type := 3, pos := "law.go:115", after := #[{ on := 11, ground := Go.Ground.guard }], guard := some (11, true) }) (v := ?v60) rfl (by kernel_rfl) (by kernel_rfl) (by kernel_rfl) (fun _ _ _ h => h) (Or.inl ⟨by rfl, ?hy60⟩) (by assumption) ?_
                case hy60 => (intro w hSw; (try dsimp only at hSw); go_simp; try with_reducible rfl)
                try simp only [Act.put, List.setIfInBounds_toArray, List.set_cons_zero, List.set_cons_succ]
                refine wpAnyH_take (i := 19) (oi := { dst := some 83, op := Go.Op.indexAddr 28 (Go.Operand.tmp 81) (Go.Operand.tmp 82), type := 0, pos := "law.go:115", after := #[{ on := 17, ground := Go.Ground.data }, { on := 18, ground := Go.Ground.data }, { on := 11, ground := Go.Ground.guard }], guard := some (11, true) }) (v := ?v61) rfl (by kernel_rfl) (by kernel_rfl) (by kernel_rfl) (fun _ _ _ h => h) (Or.inl ⟨by rfl, ?hy61⟩) (by assumption) ?_
                case hy61 => (intro w hSw; (try dsimp only at hSw); go_simp; try with_reducible rfl)
                try simp only [Act.put, List.setIfInBounds_toArray, List.set_cons_zero, List.set_cons_succ]
                refine wpAnyH_take (i := 20) (oi := { dst := some 84, op := Go.Op.fieldAddr 37 (Go.Operand.tmp 83) 0, type := 0, pos := "law.go:115", after := #[{ on := 19, ground := Go.Ground.data }, { on := 11, ground := Go.Ground.guard }], guard := some (11, true) }) (v := ?v62) rfl (by kernel_rfl) (by kernel_rfl) (by kernel_rfl) (fun _ _ _ h => h) (Or.inl ⟨by rfl, ?hy62⟩) (by assumption) ?_
                case hy62 => (intro w hSw; (try dsimp only at hSw); go_simp; try with_reducible rfl)
                try simp only [Act.put, List.setIfInBounds_toArray, List.set_cons_zero, List.set_cons_succ]
                refine wpAnyH_take (i := 21) (oi := { dst := some 85, op := Go.Op.load 25 (Go.Operand.tmp 84), type := 25, pos := "law.go:115", after := #[{ on := 20, ground := Go.Ground.data }, { on := 11, ground := Go.Ground.guard }], guard := some (11, true) }) (v := ?v63) rfl (by kernel_rfl) (by kernel_rfl) (by kernel_rfl) (fun _ _ _ h => h) (Or.inl ⟨by rfl, ?hy63⟩) (by assumption) ?_
                case hy63 => (intro w hSw; (try dsimp only at hSw); go_simp; try with_reducible rfl)
                try simp only [Act.put, List.setIfInBounds_toArray, List.set_cons_zero, List.set_cons_succ]
                refine wpAnyH_take (i := 22) (oi := { dst := some 86, op := Go.Op.slice 25 (Go.Operand.tmp 85) (some (Go.Operand.const (Go.Value.int Go.IntKind.i64 1))) none none, type := 25, pos := "law.go:115", after := #[{ on := 21, ground := Go.Ground.data }, { on := 11, ground := Go.Ground.guard }], guard := some (11, true) }) (v := Value.slice B mB dB) rfl (by kernel_rfl) (by kernel_rfl) (by kernel_rfl) (fun _ _ _ h => h) (Or.inl ⟨by rfl, ?hy64⟩) (by assumption) ?_
                case hy64 => (intro w hSw; exact y_slice25 _ _ rfl rfl rfl (hct' w))
                try simp only [Act.put, List.setIfInBounds_toArray, List.set_cons_zero, List.set_cons_succ]
                refine wpAnyH_ready (rs := [23]) (by kernel_rfl) (by simp) ?_
                refine (AllReadyH.cons (i := 23) (o := { dst := some 87, op := Go.Op.call { callee := Go.Callee.value (Go.Operand.func 20), args := #[Go.Operand.tmp 80, Go.Operand.tmp 86], argTypes := #[25, 25] }, type := 4, pos := "law.go:115", after := #[{ on := 16, ground := Go.Ground.data }, { on := 22, ground := Go.Ground.data }, { on := 11, ground := Go.Ground.chain }, { on := 11, ground := Go.Ground.guard }], guard := some (11, true) }) rfl (fun K' hK' => ?_) AllReadyH.nil)
                go_simp
                with_reducible refine (HSI.out _ (Bw.drew (Below.refl _ _))).mono ?_
                rintro e' wA ⟨rfl, hdA⟩
                have hbA' := (Bw.drew (Below.refl _ wr)).then hdA.bw
                try dsimp only
                refine hK'.out _ _ ?_ (fun hHeld => ?_)
                · exact K0 _ hbA'
                clear hK' K'
                try simp only [Act.put, List.setIfInBounds_toArray, List.set_cons_zero, List.set_cons_succ]
                refine wpAnyH_take (i := 24) (oi := { dst := some 88, op := Go.Op.pick (Go.Operand.tmp 75) (Go.Operand.tmp 87) (Go.Operand.const (Go.Value.bool false)), type := 4, pos := "law.go:115", after := #[{ on := 11, ground := Go.Ground.data }, { on := 23, ground := Go.Ground.data }], guard := none }) (v := ?v65) rfl (by kernel_rfl) (by kernel_rfl) (by kernel_rfl) (fun _ _ _ h => h) (Or.inl ⟨by rfl, ?hy65⟩) (by assumption) ?_
                case hy65 => (intro w hSw; (try dsimp only at hSw); go_simp; try with_reducible rfl)
                try simp only [Act.put, List.setIfInBounds_toArray, List.set_cons_zero, List.set_cons_succ]
                refine wpAnyH_take (i := 25) (oi := { dst := some 89, op := Go.Op.move (Go.Operand.tmp 88), type := 4, pos := "law.go:115", after := #[{ on := 24, ground := Go.Ground.data }, { on := 23, ground := Go.Ground.chain }], guard := none }) (v := ?v66) rfl (by kernel_rfl) (by kernel_rfl) (by kernel_rfl) (fun _ _ _ h => h) (Or.inl ⟨by rfl, ?hy66⟩) (by assumption) ?_
                case hy66 => (intro w hSw; (try dsimp only at hSw); go_simp; try with_reducible rfl)
                try simp only [Act.put, List.setIfInBounds_toArray, List.set_cons_zero, List.set_cons_succ]
                refine wpAnyH_take (i := 26) (oi := { dst := some 90, op := Go.Op.move (Go.Operand.tmp 5), type := 28, pos := "law.go:115", after := #[{ on := 25, ground := Go.Ground.guard }], guard := some (25, true) }) (v := ?v67) rfl (by kernel_rfl) (by kernel_rfl) (by kernel_rfl) (fun _ _ _ h => h) (Or.inl ⟨by rfl, ?hy67⟩) (by assumption) ?_
                case hy67 => (intro w hSw; (try dsimp only at hSw); go_simp; try with_reducible rfl)
                try simp only [Act.put, List.setIfInBounds_toArray, List.set_cons_zero, List.set_cons_succ]
                refine wpAnyH_take (i := 27) (oi := { dst := some 91, op := Go.Op.move (Go.Operand.tmp 9), type := 3, pos := "law.go:115", after := #[{ on := 25, ground := Go.Ground.guard }], guard := some (25, true) }) (v := ?v68) rfl (by kernel_rfl) (by kernel_rfl) (by kernel_rfl) (fun _ _ _ h => h) (Or.inl ⟨by rfl, ?hy68⟩) (by assumption) ?_
                case hy68 => (intro w hSw; (try dsimp only at hSw); go_simp; try with_reducible rfl)
                try simp only [Act.put, List.setIfInBounds_toArray, List.set_cons_zero, List.set_cons_succ]
                refine wpAnyH_take (i := 28) (oi := { dst := some 92, op := Go.Op.indexAddr 28 (Go.Operand.tmp 90) (Go.Operand.tmp 91), type := 0, pos := "law.go:115", after := #[{ on := 26, ground := Go.Ground.data }, { on := 27, ground := Go.Ground.data }, { on := 25, ground := Go.Ground.guard }], guard := some (25, true) }) (v := ?v69) rfl (by kernel_rfl) (by kernel_rfl) (by kernel_rfl) (fun _ _ _ h => h) (Or.inl ⟨by rfl, ?hy69⟩) (by assumption) ?_
                case hy69 => (intro w hSw; (try dsimp only at hSw); go_simp; try with_reducible rfl)
                try simp only [Act.put, List.setIfInBounds_toArray, List.set_cons_zero, List.set_cons_succ]
                refine wpAnyH_take (i := 29) (oi := { dst := some 93, op := Go.Op.fieldAddr 37 (Go.Operand.tmp 92) 2, type := 0, pos := "law.go:115", after := #[{ on := 28, ground := Go.Ground.data }, { on := 25, ground := Go.Ground.guard }], guard := some (25, true) }) (v := ?v70) rfl (by kernel_rfl) (by kernel_rfl) (by kernel_rfl) (fun _ _ _ h => h) (Or.inl ⟨by rfl, ?hy70⟩) (by assumption) ?_
                case hy70 => (intro w hSw; (try dsimp only at hSw); go_simp; try with_reducible rfl)
                try simp only [Act.put, List.setIfInBounds_toArray, List.set_cons_zero, List.set_cons_succ]
                refine wpAnyH_take (i := 30) (oi := { dst := some 94, op := Go.Op.load 3 (Go.Operand.tmp 93), type := 3, pos := "law.go:115", after := #[{ on := 29, ground := Go.Ground.data }, { on := 25, ground := Go.Ground.guard }], guard := some (25, true) }) (v := ?v71) rfl (by kernel_rfl) (by kernel_rfl) (by kernel_rfl) (fun _ _ _ h => h) (Or.inl ⟨by rfl, ?hy71⟩) (by assumption) ?_
                case hy71 => (intro w hSw; (try dsimp only at hSw); go_simp; try with_reducible rfl)
                try simp only [Act.put, List.setIfInBounds_toArray, List.set_cons_zero, List.set_cons_succ]
                refine wpAnyH_take (i := 31) (oi := { dst := some 95, op := Go.Op.move (Go.Operand.tmp 5), type := 28, pos := "law.go:115", after := #[{ on := 25, ground := Go.Ground.guard }], guard := some (25, true) }) (v := ?v72) rfl (by kernel_rfl) (by kernel_rfl) (by kernel_rfl) (fun _ _ _ h => h) (Or.inl ⟨by rfl, ?hy72⟩) (by assumption) ?_
                case hy72 => (intro w hSw; (try dsimp only at hSw); go_simp; try with_reducible rfl)
                try simp only [Act.put, List.setIfInBounds_toArray, List.set_cons_zero, List.set_cons_succ]
                refine wpAnyH_take (i := 32) (oi := { dst := some 96, op := Go.Op.move (Go.Operand.tmp 8), type := 3, pos := "law.go:115", after := #[{ on := 25, ground := Go.Ground.guard }], guard := some (25, true) }) (v := ?v73) rfl (by kernel_rfl) (by kernel_rfl) (by kernel_rfl) (fun _ _ _ h => h) (Or.inl ⟨by rfl, ?hy73⟩) (by assumption) ?_
                case hy73 => (intro w hSw; (try dsimp only at hSw); go_simp; try with_reducible rfl)
                try simp only [Act.put, List.setIfInBounds_toArray, List.set_cons_zero, List.set_cons_succ]
                refine wpAnyH_take (i := 33) (oi := { dst := some 97, op := Go.Op.indexAddr 28 (Go.Operand.tmp 95) (Go.Operand.tmp 96), type := 0, pos := "law.go:115", after := #[{ on := 31, ground := Go.Ground.data }, { on := 32, ground := Go.Ground.data }, { on := 25, ground := Go.Ground.guard }], guard := some (25, true) }) (v := ?v74) rfl (by kernel_rfl) (by kernel_rfl) (by kernel_rfl) (fun _ _ _ h => h) (Or.inl ⟨by rfl, ?hy74⟩) (by assumption) ?_
                case hy74 => (intro w hSw; (try dsimp only at hSw); go_simp; try with_reducible rfl)
                try simp only [Act.put, List.setIfInBounds_toArray, List.set_cons_zero, List.set_cons_succ]
                refine wpAnyH_take (i := 34) (oi := { dst := some 98, op := Go.Op.fieldAddr 37 (Go.Operand.tmp 97) 2, type := 0, pos := "law.go:115", after := #[{ on := 33, ground := Go.Ground.data }, { on := 25, ground := Go.Ground.guard }], guard := some (25, true) }) (v := ?v75) rfl (by kernel_rfl) (by kernel_rfl) (by kernel_rfl) (fun _ _ _ h => h) (Or.inl ⟨by rfl, ?hy75⟩) (by assumption) ?_
                case hy75 => (intro w hSw; (try dsimp only at hSw); go_simp; try with_reducible rfl)
                try simp only [Act.put, List.setIfInBounds_toArray, List.set_cons_zero, List.set_cons_succ]
                refine wpAnyH_take (i := 35) (oi := { dst := some 99, op := Go.Op.load 3 (Go.Operand.tmp 98), type := 3, pos := "law.go:115", after := #[{ on := 34, ground := Go.Ground.data }, { on := 25, ground := Go.Ground.guard }], guard := some (25, true) }) (v := ?v76) rfl (by kernel_rfl) (by kernel_rfl) (by kernel_rfl) (fun _ _ _ h => h) (Or.inl ⟨by rfl, ?hy76⟩) (by assumption) ?_
                case hy76 => (intro w hSw; (try dsimp only at hSw); go_simp; try with_reducible rfl)
                try simp only [Act.put, List.setIfInBounds_toArray, List.set_cons_zero, List.set_cons_succ]
                refine wpAnyH_take (i := 36) (oi := { dst := some 100, op := Go.Op.binOp Go.BinOp.lss 3 (Go.Operand.tmp 94) (Go.Operand.tmp 99) 3, type := 4, pos := "law.go:115", after := #[{ on := 30, ground := Go.Ground.data }, { on := 35, ground := Go.Ground.data }, { on := 25, ground := Go.Ground.guard }], guard := some (25, true) }) (v := Value.bool false) rfl (by kernel_rfl) (by kernel_rfl) (by kernel_rfl) (fun _ _ _ h => h) (Or.inl ⟨by rfl, ?hy77⟩) (by assumption) ?_
                case hy77 => (intro w hSw; (try dsimp only at hSw); go_simp)
                try simp only [Act.put, List.setIfInBounds_toArray, List.set_cons_zero, List.set_cons_succ]
                refine wpAnyH_take (i := 37) (oi := { dst := some 101, op := Go.Op.pick (Go.Operand.tmp 89) (Go.Operand.tmp 100) (Go.Operand.const (Go.Value.bool false)), type := 4, pos := "law.go:115", after := #[{ on := 25, ground := Go.Ground.data }, { on := 36, ground := Go.Ground.data }], guard := none }) (v := ?v78) rfl (by kernel_rfl) (by kernel_rfl) (by kernel_rfl) (fun _ _ _ h => h) (Or.inl ⟨by rfl, ?hy78⟩) (by assumption) ?_
                case hy78 => (intro w hSw; (try dsimp only at hSw); go_simp; try with_reducible rfl)
                try simp only [Act.put, List.setIfInBounds_toArray, List.set_cons_zero, List.set_cons_succ]
                refine wpAnyH_done (by kernel_rfl) ?_ _
                go_wp2_with fail
                exact ⟨⟨p + 1, hlt2, by go_num, hdq.then hbA'⟩, by simp [intOf]; omega⟩
            · have hts := str_ne ht
              clear hu2 f0 f1 f2 ht HSI
              go_wp2_with fail
              refine wp_region_held_drew (S := fun u => u.cell? ⟨b, off + p * 3, none⟩ = some (.slice A2 n2 c2) ∧ u.cell? ⟨b, off + p * 3 + 1, none⟩ = some (.string f.2.1) ∧ u.cell? ⟨b, off + p * 3 + 2, none⟩ = some (.int .i64 f.2.2) ∧ u.cell? ⟨b, off + k * 3, none⟩ = some (.slice A1 n1 c1) ∧ u.cell? ⟨b, off + k * 3 + 1, none⟩ = some (.string e.2.1) ∧ u.cell? ⟨b, off + k * 3 + 2, none⟩ = some (.int .i64 e.2.2)) (by kernel_rfl) ?_ (fun hHeld => ?_)
              · exact K0 _ (Bw.drew (Below.refl _ _))
              refine wpAnyH_take (i := 0) (oi := { dst := some 64, op := Go.Op.move (Go.Operand.tmp 5), type := 28, pos := "law.go:115", after := #[], guard := none }) (v := ?v1) rfl (by kernel_rfl) (by kernel_rfl) (by kernel_rfl) (fun _ _ _ h => h) (Or.inl ⟨by rfl, ?hy1⟩) (by assumption) ?_
              case hy1 => (intro w hSw; (try dsimp only at hSw); go_simp; try with_reducible rfl)
              try simp only [Act.put, List.setIfInBounds_toArray, List.set_cons_zero, List.set_cons_succ]
              refine wpAnyH_take (i := 1) (oi := { dst := some 65, op := Go.Op.move (Go.Operand.tmp 9), type := 3, pos := "law.go:115", after := #[], guard := none }) (v := ?v2) rfl (by kernel_rfl) (by kernel_rfl) (by kernel_rfl) (fun _ _ _ h => h) (Or.inl ⟨by rfl, ?hy2⟩) (by assumption) ?_
              case hy2 => (intro w hSw; (try dsimp only at hSw); go_simp; try with_reducible rfl)
              try simp only [Act.put, List.setIfInBounds_toArray, List.set_cons_zero, List.set_cons_succ]
              refine wpAnyH_take (i := 2) (oi := { dst := some 66, op := Go.Op.indexAddr 28 (Go.Operand.tmp 64) (Go.Operand.tmp 65), type := 0, pos := "law.go:115", after := #[{ on := 0, ground := Go.Ground.data }, { on := 1, ground := Go.Ground.data }], guard := none }) (v := ?v3) rfl (by kernel_rfl) (by kernel_rfl) (by kernel_rfl) (fun _ _ _ h => h) (Or.inl ⟨by rfl, ?hy3⟩) (by assumption) ?_
              case hy3 => (intro w hSw; (try dsimp only at hSw); go_simp; try with_reducible rfl)
              try simp only [Act.put, List.setIfInBounds_toArray, List.set_cons_zero, List.set_cons_succ]
              refine wpAnyH_take (i := 3) (oi := { dst := some 67, op := Go.Op.fieldAddr 37 (Go.Operand.tmp 66) 1, type := 0, pos := "law.go:115", after := #[{ on := 2, ground := Go.Ground.data }], guard := none }) (v := ?v4) rfl (by kernel_rfl) (by kernel_rfl) (by kernel_rfl) (fun _ _ _ h => h) (Or.inl ⟨by rfl, ?hy4⟩) (by assumption) ?_
              case hy4 => (intro w hSw; (try dsimp only at hSw); go_simp; try with_reducible rfl)
              try simp only [Act.put, List.setIfInBounds_toArray, List.set_cons_zero, List.set_cons_succ]
              refine wpAnyH_take (i := 4) (oi := { dst := some 68, op := Go.Op.load 9 (Go.Operand.tmp 67), type := 9, pos := "law.go:115", after := #[{ on := 3, ground := Go.Ground.data }], guard := none }) (v := ?v5) rfl (by kernel_rfl) (by kernel_rfl) (by kernel_rfl) (fun _ _ _ h => h) (Or.inl ⟨by rfl, ?hy5⟩) (by assumption) ?_
              case hy5 => (intro w hSw; (try dsimp only at hSw); go_simp; try with_reducible rfl)
              try simp only [Act.put, List.setIfInBounds_toArray, List.set_cons_zero, List.set_cons_succ]
              refine wpAnyH_take (i := 5) (oi := { dst := some 69, op := Go.Op.move (Go.Operand.tmp 5), type := 28, pos := "law.go:115", after := #[], guard := none }) (v := ?v6) rfl (by kernel_rfl) (by kernel_rfl) (by kernel_rfl) (fun _ _ _ h => h) (Or.inl ⟨by rfl, ?hy6⟩) (by assumption) ?_
              case hy6 => (intro w hSw; (try dsimp only at hSw); go_simp; try with_reducible rfl)
              try simp only [Act.put, List.setIfInBounds_toArray, List.set_cons_zero, List.set_cons_succ]
              refine wpAnyH_take (i := 6) (oi := { dst := some 70, op := Go.Op.move (Go.Operand.tmp 8), type := 3, pos := "law.go:115", after := #[], guard := none }) (v := ?v7) rfl (by kernel_rfl) (by kernel_rfl) (by kernel_rfl) (fun _ _ _ h => h) (Or.inl ⟨by rfl, ?hy7⟩) (by assumption) ?_
              case hy7 => (intro w hSw; (try dsimp only at hSw); go_simp; try with_reducible rfl)
              try simp only [Act.put, List.setIfInBounds_toArray, List.set_cons_zero, List.set_cons_succ]
              refine wpAnyH_take (i := 7) (oi := { dst := some 71, op := Go.Op.indexAddr 28 (Go.Operand.tmp 69) (Go.Operand.tmp 70), type := 0, pos := "law.go:115", after := #[{ on := 5, ground := Go.Ground.data }, { on := 6, ground := Go.Ground.data }], guard := none }) (v := ?v8) rfl (by kernel_rfl) (by kernel_rfl) (by kernel_rfl) (fun _ _ _ h => h) (Or.inl ⟨by rfl, ?hy8⟩) (by assumption) ?_
              case hy8 => (intro w hSw; (try dsimp only at hSw); go_simp; try with_reducible rfl)
              try simp only [Act.put, List.setIfInBounds_toArray, List.set_cons_zero, List.set_cons_succ]
              refine wpAnyH_take (i := 8) (oi := { dst := some 72, op := Go.Op.fieldAddr 37 (Go.Operand.tmp 71) 1, type := 0, pos := "law.go:115", after := #[{ on := 7, ground := Go.Ground.data }], guard := none }) (v := ?v9) rfl (by kernel_rfl) (by kernel_rfl) (by kernel_rfl) (fun _ _ _ h => h) (Or.inl ⟨by rfl, ?hy9⟩) (by assumption) ?_
              case hy9 => (intro w hSw; (try dsimp only at hSw); go_simp; try with_reducible rfl)
              try simp only [Act.put, List.setIfInBounds_toArray, List.set_cons_zero, List.set_cons_succ]
              refine wpAnyH_take (i := 9) (oi := { dst := some 73, op := Go.Op.load 9 (Go.Operand.tmp 72), type := 9, pos := "law.go:115", after := #[{ on := 8, ground := Go.Ground.data }], guard := none }) (v := ?v10) rfl (by kernel_rfl) (by kernel_rfl) (by kernel_rfl) (fun _ _ _ h => h) (Or.inl ⟨by rfl, ?hy10⟩) (by assumption) ?_
              case hy10 => (intro w hSw; (try dsimp only at hSw); go_simp; try with_reducible rfl)
              try simp only [Act.put, List.setIfInBounds_toArray, List.set_cons_zero, List.set_cons_succ]
              refine wpAnyH_take (i := 10) (oi := { dst := some 74, op := Go.Op.binOp Go.BinOp.eql 9 (Go.Operand.tmp 68) (Go.Operand.tmp 73) 9, type := 4, pos := "law.go:115", after := #[{ on := 4, ground := Go.Ground.data }, { on := 9, ground := Go.Ground.data }], guard := none }) (v := Value.bool false) rfl (by kernel_rfl) (by kernel_rfl) (by kernel_rfl) (fun _ _ _ h => h) (Or.inl ⟨by rfl, ?hy11⟩) (by assumption) ?_
              case hy11 => (intro w hSw; (try dsimp only at hSw); go_simp)
              try simp only [Act.put, List.setIfInBounds_toArray, List.set_cons_zero, List.set_cons_succ]
              refine wpAnyH_take (i := 11) (oi := { dst := some 75, op := Go.Op.move (Go.Operand.tmp 74), type := 4, pos := "law.go:115", after := #[{ on := 10, ground := Go.Ground.data }], guard := none }) (v := ?v12) rfl (by kernel_rfl) (by kernel_rfl) (by kernel_rfl) (fun _ _ _ h => h) (Or.inl ⟨by rfl, ?hy12⟩) (by assumption) ?_
              case hy12 => (intro w hSw; (try dsimp only at hSw); go_simp; try with_reducible rfl)
              try simp only [Act.put, List.setIfInBounds_toArray, List.set_cons_zero, List.set_cons_succ]
              refine wpAnyH_take (i := 12) (oi := { dst := some 76, op := Go.Op.move (Go.Operand.tmp 5), type := 28, pos := "law.go:115", after := #[{ on := 11, ground := Go.Ground.guard }], guard := some (11, true) }) (v := undef) rfl (by kernel_rfl) (by kernel_rfl) (by kernel_rfl) (fun _ _ _ h => h) (Or.inr ⟨by rfl, rfl⟩) (by assumption) ?_
              try simp only [Act.put, List.setIfInBounds_toArray, List.set_cons_zero, List.set_cons_succ]
              refine wpAnyH_take (i := 13) (oi := { dst := some 77, op := Go.Op.move (Go.Operand.tmp 9), type := 3, pos := "law.go:115", after := #[{ on := 11, ground := Go.Ground.guard }], guard := some (11, true) }) (v := undef) rfl (by kernel_rfl) (by kernel_rfl) (by kernel_rfl) (fun _ _ _ h => h) (Or.inr ⟨by rfl, rfl⟩) (by assumption) ?_
              try simp only [Act.put, List.setIfInBounds_toArray, List.set_cons_zero, List.set_cons_succ]
              refine wpAnyH_take (i := 14) (oi := { dst := some 78, op := Go.Op.indexAddr 28 (Go.Operand.tmp 76) (Go.Operand.tmp 77), type := 0, pos := "law.go:115", after := #[{ on := 12, ground := Go.Ground.data }, { on := 13, ground := Go.Ground.data }, { on := 11, ground := Go.Ground.guard }], guard := some (11, true) }) (v := undef) rfl (by kernel_rfl) (by kernel_rfl) (by kernel_rfl) (fun _ _ _ h => h) (Or.inr ⟨by rfl, rfl⟩) (by assumption) ?_
              try simp only [Act.put, List.setIfInBounds_toArray, List.set_cons_zero, List.set_cons_succ]
              refine wpAnyH_take (i := 15) (oi := { dst := some 79, op := Go.Op.fieldAddr 37 (Go.Operand.tmp 78) 0, type := 0, pos := "law.go:115", after := #[{ on := 14, ground := Go.Ground.data }, { on := 11, ground := Go.Ground.guard }], guard := some (11, true) }) (v := undef) rfl (by kernel_rfl) (by kernel_rfl) (by kernel_rfl) (fun _ _ _ h => h) (Or.inr ⟨by rfl, rfl⟩) (by assumption) ?_
              try simp only [Act.put, List.setIfInBounds_toArray, List.set_cons_zero, List.set_cons_succ]
              refine wpAnyH_take (i := 16) (oi := { dst := some 80, op := Go.Op.load 25 (Go.Operand.tmp 79), type := 25, pos := "law.go:115", after := #[{ on := 15, ground := Go.Ground.data }, { on := 11, ground := Go.Ground.guard }], guard := some (11, true) }) (v := undef) rfl (by kernel_rfl) (by kernel_rfl) (by kernel_rfl) (fun _ _ _ h => h) (Or.inr ⟨by rfl, rfl⟩) (by assumption) ?_
              try simp only [Act.put, List.setIfInBounds_toArray, List.set_cons_zero, List.set_cons_succ]
              refine wpAnyH_take (i := 17) (oi := { dst := some 81, op := Go.Op.move (Go.Operand.tmp 5), type := 28, pos := "law.go:115", after := #[{ on := 11, ground := Go.Ground.guard }], guard := some (11, true) }) (v := undef) rfl (by kernel_rfl) (by kernel_rfl) (by kernel_rfl) (fun _ _ _ h => h) (Or.inr ⟨by rfl, rfl⟩) (by assumption) ?_
              try simp only [Act.put, List.setIfInBounds_toArray, List.set_cons_zero, List.set_cons_succ]
              refine wpAnyH_take (i := 18) (oi := { dst := some 82, op := Go.Op.move (Go.Operand.tmp 8), type := 3, pos := "law.go:115", after := #[{ on := 11, ground := Go.Ground.guard }], guard := some (11, true) }) (v := undef) rfl (by kernel_rfl) (by kernel_rfl) (by kernel_rfl) (fun _ _ _ h => h) (Or.inr ⟨by rfl, rfl⟩) (by assumption) ?_
              try simp only [Act.put, List.setIfInBounds_toArray, List.set_cons_zero, List.set_cons_succ]
              refine wpAnyH_take (i := 19) (oi := { dst := some 83, op := Go.Op.indexAddr 28 (Go.Operand.tmp 81) (Go.Operand.tmp 82), type := 0, pos := "law.go:115", after := #[{ on := 17, ground := Go.Ground.data }, { on := 18, ground := Go.Ground.data }, { on := 11, ground := Go.Ground.guard }], guard := some (11, true) }) (v := undef) rfl (by kernel_rfl) (by kernel_rfl) (by kernel_rfl) (fun _ _ _ h => h) (Or.inr ⟨by rfl, rfl⟩) (by assumption) ?_
              try simp only [Act.put, List.setIfInBounds_toArray, List.set_cons_zero, List.set_cons_succ]
              refine wpAnyH_take (i := 20) (oi := { dst := some 84, op := Go.Op.fieldAddr 37 (Go.Operand.tmp 83) 0, type := 0, pos := "law.go:115", after := #[{ on := 19, ground := Go.Ground.data }, { on := 11, ground := Go.Ground.guard }], guard := some (11, true) }) (v := undef) rfl (by kernel_rfl) (by kernel_rfl) (by kernel_rfl) (fun _ _ _ h => h) (Or.inr ⟨by rfl, rfl⟩) (by assumption) ?_
              try simp only [Act.put, List.setIfInBounds_toArray, List.set_cons_zero, List.set_cons_succ]
              refine wpAnyH_take (i := 21) (oi := { dst := some 85, op := Go.Op.load 25 (Go.Operand.tmp 84), type := 25, pos := "law.go:115", after := #[{ on := 20, ground := Go.Ground.data }, { on := 11, ground := Go.Ground.guard }], guard := some (11, true) }) (v := undef) rfl (by kernel_rfl) (by kernel_rfl) (by kernel_rfl) (fun _ _ _ h => h) (Or.inr ⟨by rfl, rfl⟩) (by assumption) ?_
              try simp only [Act.put, List.setIfInBounds_toArray, List.set_cons_zero, List.set_cons_succ]
              refine wpAnyH_take (i := 22) (oi := { dst := some 86, op := Go.Op.slice 25 (Go.Operand.tmp 85) (some (Go.Operand.const (Go.Value.int Go.IntKind.i64 1))) none none, type := 25, pos := "law.go:115", after := #[{ on := 21, ground := Go.Ground.data }, { on := 11, ground := Go.Ground.guard }], guard := some (11, true) }) (v := undef) rfl (by kernel_rfl) (by kernel_rfl) (by kernel_rfl) (fun _ _ _ h => h) (Or.inr ⟨by rfl, rfl⟩) (by assumption) ?_
              try simp only [Act.put, List.setIfInBounds_toArray, List.set_cons_zero, List.set_cons_succ]
              refine wpAnyH_take (i := 23) (oi := { dst := some 87, op := Go.Op.call { callee := Go.Callee.value (Go.Operand.func 20), args := #[Go.Operand.tmp 80, Go.Operand.tmp 86], argTypes := #[25, 25] }, type := 4, pos := "law.go:115", after := #[{ on := 16, ground := Go.Ground.data }, { on := 22, ground := Go.Ground.data }, { on := 11, ground := Go.Ground.chain }, { on := 11, ground := Go.Ground.guard }], guard := some (11, true) }) (v := undef) rfl (by kernel_rfl) (by kernel_rfl) (by kernel_rfl) (fun _ _ _ h => h) (Or.inr ⟨by rfl, rfl⟩) (by assumption) ?_
              try simp only [Act.put, List.setIfInBounds_toArray, List.set_cons_zero, List.set_cons_succ]
              refine wpAnyH_take (i := 24) (oi := { dst := some 88, op := Go.Op.pick (Go.Operand.tmp 75) (Go.Operand.tmp 87) (Go.Operand.const (Go.Value.bool false)), type := 4, pos := "law.go:115", after := #[{ on := 11, ground := Go.Ground.data }, { on := 23, ground := Go.Ground.data }], guard := none }) (v := ?v13) rfl (by kernel_rfl) (by kernel_rfl) (by kernel_rfl) (fun _ _ _ h => h) (Or.inl ⟨by rfl, ?hy13⟩) (by assumption) ?_
              case hy13 => (intro w hSw; (try dsimp only at hSw); go_simp; try with_reducible rfl)
              try simp only [Act.put, List.setIfInBounds_toArray, List.set_cons_zero, List.set_cons_succ]
              refine wpAnyH_take (i := 25) (oi := { dst := some 89, op := Go.Op.move (Go.Operand.tmp 88), type := 4, pos := "law.go:115", after := #[{ on := 24, ground := Go.Ground.data }, { on := 23, ground := Go.Ground.chain }], guard := none }) (v := ?v14) rfl (by kernel_rfl) (by kernel_rfl) (by kernel_rfl) (fun _ _ _ h => h) (Or.inl ⟨by rfl, ?hy14⟩) (by assumption) ?_
              case hy14 => (intro w hSw; (try dsimp only at hSw); go_simp; try with_reducible rfl)
              try simp only [Act.put, List.setIfInBounds_toArray, List.set_cons_zero, List.set_cons_succ]
              refine wpAnyH_take (i := 26) (oi := { dst := some 90, op := Go.Op.move (Go.Operand.tmp 5), type := 28, pos := "law.go:115", after := #[{ on := 25, ground := Go.Ground.guard }], guard := some (25, true) }) (v := undef) rfl (by kernel_rfl) (by kernel_rfl) (by kernel_rfl) (fun _ _ _ h => h) (Or.inr ⟨by rfl, rfl⟩) (by assumption) ?_
              try simp only [Act.put, List.setIfInBounds_toArray, List.set_cons_zero, List.set_cons_succ]
              refine wpAnyH_take (i := 27) (oi := { dst := some 91, op := Go.Op.move (Go.Operand.tmp 9), type := 3, pos := "law.go:115", after := #[{ on := 25, ground := Go.Ground.guard }], guard := some (25, true) }) (v := undef) rfl (by kernel_rfl) (by kernel_rfl) (by kernel_rfl) (fun _ _ _ h => h) (Or.inr ⟨by rfl, rfl⟩) (by assumption) ?_
              try simp only [Act.put, List.setIfInBounds_toArray, List.set_cons_zero, List.set_cons_succ]
              refine wpAnyH_take (i := 28) (oi := { dst := some 92, op := Go.Op.indexAddr 28 (Go.Operand.tmp 90) (Go.Operand.tmp 91), type := 0, pos := "law.go:115", after := #[{ on := 26, ground := Go.Ground.data }, { on := 27, ground := Go.Ground.data }, { on := 25, ground := Go.Ground.guard }], guard := some (25, true) }) (v := undef) rfl (by kernel_rfl) (by kernel_rfl) (by kernel_rfl) (fun _ _ _ h => h) (Or.inr ⟨by rfl, rfl⟩) (by assumption) ?_
              try simp only [Act.put, List.setIfInBounds_toArray, List.set_cons_zero, List.set_cons_succ]
              refine wpAnyH_take (i := 29) (oi := { dst := some 93, op := Go.Op.fieldAddr 37 (Go.Operand.tmp 92) 2, type := 0, pos := "law.go:115", after := #[{ on := 28, ground := Go.Ground.data }, { on := 25, ground := Go.Ground.guard }], guard := some (25, true) }) (v := undef) rfl (by kernel_rfl) (by kernel_rfl) (by kernel_rfl) (fun _ _ _ h => h) (Or.inr ⟨by rfl, rfl⟩) (by assumption) ?_
              try simp only [Act.put, List.setIfInBounds_toArray, List.set_cons_zero, List.set_cons_succ]
              refine wpAnyH_take (i := 30) (oi := { dst := some 94, op := Go.Op.load 3 (Go.Operand.tmp 93), type := 3, pos := "law.go:115", after := #[{ on := 29, ground := Go.Ground.data }, { on := 25, ground := Go.Ground.guard }], guard := some (25, true) }) (v := undef) rfl (by kernel_rfl) (by kernel_rfl) (by kernel_rfl) (fun _ _ _ h => h) (Or.inr ⟨by rfl, rfl⟩) (by assumption) ?_
              try simp only [Act.put, List.setIfInBounds_toArray, List.set_cons_zero, List.set_cons_succ]
              refine wpAnyH_take (i := 31) (oi := { dst := some 95, op := Go.Op.move (Go.Operand.tmp 5), type := 28, pos := "law.go:115", after := #[{ on := 25, ground := Go.Ground.guard }], guard := some (25, true) }) (v := undef) rfl (by kernel_rfl) (by kernel_rfl) (by kernel_rfl) (fun _ _ _ h => h) (Or.inr ⟨by rfl, rfl⟩) (by assumption) ?_
              try simp only [Act.put, List.setIfInBounds_toArray, List.set_cons_zero, List.set_cons_succ]
              refine wpAnyH_take (i := 32) (oi := { dst := some 96, op := Go.Op.move (Go.Operand.tmp 8), type := 3, pos := "law.go:115", after := #[{ on := 25, ground := Go.Ground.guard }], guard := some (25, true) }) (v := undef) rfl (by kernel_rfl) (by kernel_rfl) (by kernel_rfl) (fun _ _ _ h => h) (Or.inr ⟨by rfl, rfl⟩) (by assumption) ?_
              try simp only [Act.put, List.setIfInBounds_toArray, List.set_cons_zero, List.set_cons_succ]
              refine wpAnyH_take (i := 33) (oi := { dst := some 97, op := Go.Op.indexAddr 28 (Go.Operand.tmp 95) (Go.Operand.tmp 96), type := 0, pos := "law.go:115", after := #[{ on := 31, ground := Go.Ground.data }, { on := 32, ground := Go.Ground.data }, { on := 25, ground := Go.Ground.guard }], guard := some (25, true) }) (v := undef) rfl (by kernel_rfl) (by kernel_rfl) (by kernel_rfl) (fun _ _ _ h => h) (Or.inr ⟨by rfl, rfl⟩) (by assumption) ?_
              try simp only [Act.put, List.setIfInBounds_toArray, List.set_cons_zero, List.set_cons_succ]
              refine wpAnyH_take (i := 34) (oi := { dst := some 98, op := Go.Op.fieldAddr 37 (Go.Operand.tmp 97) 2, type := 0, pos := "law.go:115", after := #[{ on := 33, ground := Go.Ground.data }, { on := 25, ground := Go.Ground.guard }], guard := some (25, true) }) (v := undef) rfl (by kernel_rfl) (by kernel_rfl) (by kernel_rfl) (fun _ _ _ h => h) (Or.inr ⟨by rfl, rfl⟩) (by assumption) ?_
              try simp only [Act.put, List.setIfInBounds_toArray, List.set_cons_zero, List.set_cons_succ]
              refine wpAnyH_take (i := 35) (oi := { dst := some 99, op := Go.Op.load 3 (Go.Operand.tmp 98), type := 3, pos := "law.go:115", after := #[{ on := 34, ground := Go.Ground.data }, { on := 25, ground := Go.Ground.guard }], guard := some (25, true) }) (v := undef) rfl (by kernel_rfl) (by kernel_rfl) (by kernel_rfl) (fun _ _ _ h => h) (Or.inr ⟨by rfl, rfl⟩) (by assumption) ?_
              try simp only [Act.put, List.setIfInBounds_toArray, List.set_cons_zero, List.set_cons_succ]
              refine wpAnyH_take (i := 36) (oi := { dst := some 100, op := Go.Op.binOp Go.BinOp.lss 3 (Go.Operand.tmp 94) (Go.Operand.tmp 99) 3, type := 4, pos := "law.go:115", after := #[{ on := 30, ground := Go.Ground.data }, { on := 35, ground := Go.Ground.data }, { on := 25, ground := Go.Ground.guard }], guard := some (25, true) }) (v := undef) rfl (by kernel_rfl) (by kernel_rfl) (by kernel_rfl) (fun _ _ _ h => h) (Or.inr ⟨by rfl, rfl⟩) (by assumption) ?_
              try simp only [Act.put, List.setIfInBounds_toArray, List.set_cons_zero, List.set_cons_succ]
              refine wpAnyH_take (i := 37) (oi := { dst := some 101, op := Go.Op.pick (Go.Operand.tmp 89) (Go.Operand.tmp 100) (Go.Operand.const (Go.Value.bool false)), type := 4, pos := "law.go:115", after := #[{ on := 25, ground := Go.Ground.data }, { on := 36, ground := Go.Ground.data }], guard := none }) (v := ?v15) rfl (by kernel_rfl) (by kernel_rfl) (by kernel_rfl) (fun _ _ _ h => h) (Or.inl ⟨by rfl, ?hy15⟩) (by assumption) ?_
              case hy15 => (intro w hSw; (try dsimp only at hSw); go_simp; try with_reducible rfl)
              try simp only [Act.put, List.setIfInBounds_toArray, List.set_cons_zero, List.set_cons_succ]
              refine wpAnyH_done (by kernel_rfl) ?_ _
              go_wp2_with fail
              exact ⟨⟨p + 1, hlt2, by go_num, hdq.drew⟩, by simp [intOf]; omega⟩
          · have hlti : ¬ (p : Int) < (M : Int) := by omega
            go_wp2_with fail
            exact ⟨⟨k + 1, hlt, by go_num, hd.then hdq, z, rfl, hzz, hz0, hz1⟩, by simp [intOf]; omega⟩
    · have hkM : k = M := by omega
      subst hkM
      have hzN : z = (N : Int) := by
        rw [hz.out, List.take_of_length_le (by have := hM.out; omega), HK.out.sum, hN.out]
      subst hzN
      have hne : ((N : Int) != (N : Int)) = false := by simp
      clear hz hz0 hz1
      go_wp2_with fail
      rename World => W3
      go_loopw [10] (fun i wr => ∃ k : Nat, k ≤ N ∧ i = .int .i64 k ∧ Bw W3 wr) (fun i _ => N - (intOf i).toNat)
      case atStart => exact ⟨0, Nat.zero_le _, rfl, Below.refl _ _⟩
      case round =>
        obtain ⟨i, hi, rfl, hdi⟩ := hrel
        have kw := k2.then (hd.then hdi)
        by_cases hlt3 : i < N
        rotate_left
        · have hlti : ¬ (i : Int) < (N : Int) := by omega
          go_wp2_with (go_at_call 9; (with_reducible refine (HA.out _ kw).mono ?_); rintro e w9 ⟨rfl, hb9⟩)
          go_ret
          exact ⟨rfl, kw.then hb9⟩
        have hlti : (i : Int) < (N : Int) := by omega
        obtain ⟨bb, offl, y, u1, rfl, hy, hys, hu, e0, e1⟩ := (HR.out _ kw).kn (k := i) (by have := hN.out; omega)
        obtain ⟨a, ha1, ha2, ha3⟩ := HK.out.guess y (List.mem_of_getElem? hy.out)
        obtain ⟨A1, n1, c1, rfl, _, _, hn1⟩ := hu.form'
        have HGU := Lib.hid (guess_any (HTb.out _ kw) (HG.out _ (hd.then hdi)) hu.rd stable_at5)
        unfold GuessR at HGU
        rw [ha1] at HGU
        have E0 := Lib.hid (fun (W : World) (kk : Bw wr W) => bw_cell kk e0)
        have HU := Lib.hid (fun (W : World) (kk : Bw wr W) => hu.rd.after kk)
        have HA2 := Lib.hid ha2
        have HA3 := Lib.hid ha3
        clear hu ha1 ha2 ha3 e1
        go_wp2_with fail
        with_reducible refine HGU.out.mono ?_
        rintro eg w4 ⟨va, rfl, q4, hva⟩
        obtain ⟨Aa, na, ca, rfl, _, _, hna⟩ := hva.form'
        have hna : Hid (na = a.length) := hna
        have hva : Sl tEn w4 (Hi wr.heap.size) (.slice Aa na ca) a := hva
        have e0 := E0.out _ q4
        have hna0 : ((na : Int) == 0) = false := by
          rw [beq_eq_false_iff_ne]
          intro h0
          exact HA2.out (List.eq_nil_of_length_eq_zero (by have := hna.out; omega))
        have HVA := Lib.hid (fun (W : World) (kk : Bw w4 W) => hva.rd.after kk)
        have HU4 := HU.out _ q4
        have HW := Lib.hid (whole_any (HTb.out _ (kw.then q4)) (HR.out _ (kw.then q4)) HU4 (by omega))
        clear HGU hva HU4
        by_cases hmost : most < (n1 : Int)
        · clear HW
          go_wp2_with fail
          exact ⟨⟨i + 1, hlt3, by go_num, hdi.then q4⟩, by simp [intOf]; omega⟩
        have HA4 := Lib.hid (HA3.out (by have := hn1.out; omega))
        clear HA3
        go_wp2_with fail
        with_reducible refine HW.out.mono ?_
        rintro ew w5 ⟨vt, rfl, q5, hvt⟩
        obtain ⟨At, nt, ct, rfl, _, _, hnt⟩ := hvt.form'
        have HVT := Lib.hid (fun (W : World) (kk : Bw w5 W) => hvt.rd.after kk)
        have k5 := hdi.then (q4.then q5)
        clear HW hvt e0
        go_wp2_with fail
        go_loopw [14] (fun j wq => ∃ p : Nat, p ≤ nt ∧ j = .int .i64 p ∧ Bw w5 wq) (fun j _ => nt - (intOf j).toNat)
        case atStart => exact ⟨0, Nat.zero_le _, rfl, Below.refl _ _⟩
        case round =>
          obtain ⟨p, hp, rfl, hdp⟩ := hrel
          by_cases hlt4 : p < nt
          rotate_left
          · have hltp : ¬ (p : Int) < (nt : Int) := by omega
            go_wp2_with fail
            exact ⟨⟨i + 1, hlt3, by go_num, k5.then hdp⟩, by simp [intOf]; omega⟩
          have hltp : (p : Int) < (nt : Int) := by omega
          obtain ⟨bt, ot, t, rfl, ht, t0⟩ := sl_str (HVT.out _ hdp) (k := p) (by have := hnt.out; omega)
          have HEX := HA4.out t (List.mem_of_getElem? ht.out)
          have HEX := Lib.hid HEX
          have T0 := Lib.hid (fun (W : World) (kk : Bw wr W) => bw_cell kk t0)
          have HV2 := Lib.hid (fun (W : World) (kk : Bw wr W) => HVA.out W (q5.then (hdp.then kk)))
          clear t0
          go_wp2_with fail
          rename World => W6
          go_loopw [15, 16] (fun fd j wq => ∃ (s : Nat) (bo : Bool), s ≤ na ∧ fd = .bool bo ∧ j = .int .i64 s ∧ Bw W6 wq ∧ Hid (bo = (a.take s).any fun e => decide (e.2.1 = t))) (fun _ j _ => na - (intOf j).toNat)
          case atStart => exact ⟨0, false, Nat.zero_le _, rfl, rfl, Below.refl _ _, rfl⟩
          case round =>
            obtain ⟨s, bo, hs, rfl, rfl, hds, hbo⟩ := hrel
            by_cases hlt5 : s < na
            rotate_left
            · have hlts : ¬ (s : Int) < (na : Int) := by omega
              have hbt : bo = true := by
                rw [hbo.out, List.take_of_length_le (by have := hna.out; omega)]
                obtain ⟨e, he1, he2⟩ := HEX.out
                exact List.any_eq_true.2 ⟨e, he1, by simpa using he2⟩
              subst hbt
              clear hbo
              go_wp2_with fail
              exact ⟨⟨p + 1, hlt4, by go_num, hdp.then hds⟩, by simp [intOf]; omega⟩
            have hlts : (s : Int) < (na : Int) := by omega
            obtain ⟨ba, oa, e, ue, rfl, he, hes, hec, hue, g0, g1, g2⟩ := (HV2.out _ hds).en (k := s) (by have := hna.out; omega)
            have hsn := any_snoc (fun e : En => decide (e.2.1 = t)) he.out
            rw [← hbo.out] at hsn
            have t0 := T0.out _ hds
            have K0 : ∀ W, Bw wr W → (W.cell? ⟨ba, oa + s * 3 + 1, none⟩ = some (.string e.2.1) ∧ W.cell? ⟨bt, ot + p, none⟩ = some (.string t)) := fun W kk => ⟨bw_cell kk g1, bw_cell kk t0⟩
            cases bo
            · by_cases hte : e.2.1 = t
              · have hts := bool_str_eq hte
                have hfin : Hid (true = (a.take (s + 1)).any fun e => decide (e.2.1 = t)) := by show _ = _; rw [hsn]; simp [hte]
                clear hsn hbo hue g0 g1 g2 t0 hte
                go_wp2_with fail
                refine wp_region_held_drew (S := fun u => u.cell? ⟨ba, oa + s * 3 + 1, none⟩ = some (.string e.2.1) ∧ u.cell? ⟨bt, ot + p, none⟩ = some (.string t)) (by kernel_rfl) ?_ (fun hHeld => ?_)
                · exact K0 _ (Bw.drew (Below.refl _ _))
                refine wpAnyH_take (i := 0) (oi := { dst := some 156, op := Go.Op.move (Go.Operand.tmp 15), type := 4, pos := "law.go:135", after := #[], guard := none }) (v := ?v79) rfl (by kernel_rfl) (by kernel_rfl) (by kernel_rfl) (fun _ _ _ h => h) (Or.inl ⟨by rfl, ?hy79⟩) (by assumption) ?_
                case hy79 => (intro w hSw; (try dsimp only at hSw); go_simp; try with_reducible rfl)
                try simp only [Act.put, List.setIfInBounds_toArray, List.set_cons_zero, List.set_cons_succ]
                refine wpAnyH_take (i := 1) (oi := { dst := some 157, op := Go.Op.move (Go.Operand.tmp 156), type := 4, pos := "law.go:135", after := #[{ on := 0, ground := Go.Ground.data }], guard := none }) (v := ?v80) rfl (by kernel_rfl) (by kernel_rfl) (by kernel_rfl) (fun _ _ _ h => h) (Or.inl ⟨by rfl, ?hy80⟩) (by assumption) ?_
                case hy80 => (intro w hSw; (try dsimp only at hSw); go_simp; try with_reducible rfl)
                try simp only [Act.put, List.setIfInBounds_toArray, List.set_cons_zero, List.set_cons_succ]
                refine wpAnyH_take (i := 2) (oi := { dst := some 158, op := Go.Op.move (Go.Operand.tmp 11), type := 28, pos := "law.go:135", after := #[{ on := 1, ground := Go.Ground.guard }], guard := some (1, false) }) (v := ?v81) rfl (by kernel_rfl) (by kernel_rfl) (by kernel_rfl) (fun _ _ _ h => h) (Or.inl ⟨by rfl, ?hy81⟩) (by assumption) ?_
                case hy81 => (intro w hSw; (try dsimp only at hSw); go_simp; try with_reducible rfl)
                try simp only [Act.put, List.setIfInBounds_toArray, List.set_cons_zero, List.set_cons_succ]
                refine wpAnyH_take (i := 3) (oi := { dst := some 159, op := Go.Op.move (Go.Operand.tmp 16), type := 3, pos := "law.go:135", after := #[{ on := 1, ground := Go.Ground.guard }], guard := some (1, false) }) (v := ?v82) rfl (by kernel_rfl) (by kernel_rfl) (by kernel_rfl) (fun _ _ _ h => h) (Or.inl ⟨by rfl, ?hy82⟩) (by assumption) ?_
                case hy82 => (intro w hSw; (try dsimp only at hSw); go_simp; try with_reducible rfl)
                try simp only [Act.put, List.setIfInBounds_toArray, List.set_cons_zero, List.set_cons_succ]
                refine wpAnyH_take (i := 4) (oi := { dst := some 160, op := Go.Op.indexAddr 28 (Go.Operand.tmp 158) (Go.Operand.tmp 159), type := 0, pos := "law.go:135", after := #[{ on := 2, ground := Go.Ground.data }, { on := 3, ground := Go.Ground.data }, { on := 1, ground := Go.Ground.guard }], guard := some (1, false) }) (v := ?v83) rfl (by kernel_rfl) (by kernel_rfl) (by kernel_rfl) (fun _ _ _ h => h) (Or.inl ⟨by rfl, ?hy83⟩) (by assumption) ?_
                case hy83 => (intro w hSw; (try dsimp only at hSw); go_simp; try with_reducible rfl)
                try simp only [Act.put, List.setIfInBounds_toArray, List.set_cons_zero, List.set_cons_succ]
                refine wpAnyH_take (i := 5) (oi := { dst := some 161, op := Go.Op.fieldAddr 37 (Go.Operand.tmp 160) 1, type := 0, pos := "law.go:135", after := #[{ on := 4, ground := Go.Ground.data }, { on := 1, ground := Go.Ground.guard }], guard := some (1, false) }) (v := ?v84) rfl (by kernel_rfl) (by kernel_rfl) (by kernel_rfl) (fun _ _ _ h => h) (Or.inl ⟨by rfl, ?hy84⟩) (by assumption) ?_
                case hy84 => (intro w hSw; (try dsimp only at hSw); go_simp; try with_reducible rfl)
                try simp only [Act.put, List.setIfInBounds_toArray, List.set_cons_zero, List.set_cons_succ]
                refine wpAnyH_take (i := 6) (oi := { dst := some 162, op := Go.Op.load 9 (Go.Operand.tmp 161), type := 9, pos := "law.go:135", after := #[{ on := 5, ground := Go.Ground.data }, { on := 1, ground := Go.Ground.guard }], guard := some (1, false) }) (v := ?v85) rfl (by kernel_rfl) (by kernel_rfl) (by kernel_rfl) (fun _ _ _ h => h) (Or.inl ⟨by rfl, ?hy85⟩) (by assumption) ?_
                case hy85 => (intro w hSw; (try dsimp only at hSw); go_simp; try with_reducible rfl)
                try simp only [Act.put, List.setIfInBounds_toArray, List.set_cons_zero, List.set_cons_succ]
                refine wpAnyH_take (i := 7) (oi := { dst := some 163, op := Go.Op.move (Go.Operand.tmp 13), type := 39, pos := "law.go:135", after := #[{ on := 1, ground := Go.Ground.guard }], guard := some (1, false) }) (v := ?v86) rfl (by kernel_rfl) (by kernel_rfl) (by kernel_rfl) (fun _ _ _ h => h) (Or.inl ⟨by rfl, ?hy86⟩) (by assumption) ?_
                case hy86 => (intro w hSw; (try dsimp only at hSw); go_simp; try with_reducible rfl)
                try simp only [Act.put, List.setIfInBounds_toArray, List.set_cons_zero, List.set_cons_succ]
                refine wpAnyH_take (i := 8) (oi := { dst := some 164, op := Go.Op.move (Go.Operand.tmp 14), type := 3, pos := "law.go:135", after := #[{ on := 1, ground := Go.Ground.guard }], guard := some (1, false) }) (v := ?v87) rfl (by kernel_rfl) (by kernel_rfl) (by kernel_rfl) (fun _ _ _ h => h) (Or.inl ⟨by rfl, ?hy87⟩) (by assumption) ?_
                case hy87 => (intro w hSw; (try dsimp only at hSw); go_simp; try with_reducible rfl)
                try simp only [Act.put, List.setIfInBounds_toArray, List.set_cons_zero, List.set_cons_succ]
                refine wpAnyH_take (i := 9) (oi := { dst := some 165, op := Go.Op.indexAddr 39 (Go.Operand.tmp 163) (Go.Operand.tmp 164), type := 0, pos := "law.go:135", after := #[{ on := 7, ground := Go.Ground.data }, { on := 8, ground := Go.Ground.data }, { on := 1, ground := Go.Ground.guard }], guard := some (1, false) }) (v := ?v88) rfl (by kernel_rfl) (by kernel_rfl) (by kernel_rfl) (fun _ _ _ h => h) (Or.inl ⟨by rfl, ?hy88⟩) (by assumption) ?_
                case hy88 => (intro w hSw; (try dsimp only at hSw); go_simp; try with_reducible rfl)
                try simp only [Act.put, List.setIfInBounds_toArray, List.set_cons_zero, List.set_cons_succ]
                refine wpAnyH_take (i := 10) (oi := { dst := some 166, op := Go.Op.load 9 (Go.Operand.tmp 165), type := 9, pos := "law.go:135", after := #[{ on := 9, ground := Go.Ground.data }, { on := 1, ground := Go.Ground.guard }], guard := some (1, false) }) (v := ?v89) rfl (by kernel_rfl) (by kernel_rfl) (by kernel_rfl) (fun _ _ _ h => h) (Or.inl ⟨by rfl, ?hy89⟩) (by assumption) ?_
                case hy89 => (intro w hSw; (try dsimp only at hSw); go_simp; try with_reducible rfl)
                try simp only [Act.put, List.setIfInBounds_toArray, List.set_cons_zero, List.set_cons_succ]
                refine wpAnyH_take (i := 11) (oi := { dst := some 167, op := Go.Op.binOp Go.BinOp.eql 9 (Go.Operand.tmp 162) (Go.Operand.tmp 166) 9, type := 4, pos := "law.go:135", after := #[{ on := 6, ground := Go.Ground.data }, { on := 10, ground := Go.Ground.data }, { on := 1, ground := Go.Ground.guard }], guard := some (1, false) }) (v := Value.bool true) rfl (by kernel_rfl) (by kernel_rfl) (by kernel_rfl) (fun _ _ _ h => h) (Or.inl ⟨by rfl, ?hy90⟩) (by assumption) ?_
                case hy90 => (intro w hSw; (try dsimp only at hSw); go_simp)
                try simp only [Act.put, List.setIfInBounds_toArray, List.set_cons_zero, List.set_cons_succ]
                refine wpAnyH_take (i := 12) (oi := { dst := some 168, op := Go.Op.pick (Go.Operand.tmp 157) (Go.Operand.const (Go.Value.bool true)) (Go.Operand.tmp 167), type := 4, pos := "law.go:135", after := #[{ on := 1, ground := Go.Ground.data }, { on := 11, ground := Go.Ground.data }], guard := none }) (v := ?v91) rfl (by kernel_rfl) (by kernel_rfl) (by kernel_rfl) (fun _ _ _ h => h) (Or.inl ⟨by rfl, ?hy91⟩) (by assumption) ?_
                case hy91 => (intro w hSw; (try dsimp only at hSw); go_simp; try with_reducible rfl)
                try simp only [Act.put, List.setIfInBounds_toArray, List.set_cons_zero, List.set_cons_succ]
                refine wpAnyH_take (i := 13) (oi := { dst := some 15, op := Go.Op.assign (Go.Operand.tmp 168), type := 4, pos := "law.go:135", after := #[{ on := 12, ground := Go.Ground.data }, { on := 1, ground := Go.Ground.chain }, { on := 0, ground := Go.Ground.phase }, { on := 1, ground := Go.Ground.phase }, { on := 2, ground := Go.Ground.phase }, { on := 3, ground := Go.Ground.phase }, { on := 4, ground := Go.Ground.phase }, { on := 5, ground := Go.Ground.phase }, { on := 6, ground := Go.Ground.phase }, { on := 7, ground := Go.Ground.phase }, { on := 8, ground := Go.Ground.phase }, { on := 9, ground := Go.Ground.phase }, { on := 10, ground := Go.Ground.phase }, { on := 11, ground := Go.Ground.phase }, { on := 12, ground := Go.Ground.phase }], guard := none }) (v := ?v92) rfl (by kernel_rfl) (by kernel_rfl) (by kernel_rfl) (fun _ _ _ h => h) (Or.inl ⟨by rfl, ?hy92⟩) (by assumption) ?_
                case hy92 => (intro w hSw; (try dsimp only at hSw); go_simp; try with_reducible rfl)
                try simp only [Act.put, List.setIfInBounds_toArray, List.set_cons_zero, List.set_cons_succ]
                refine wpAnyH_done (by kernel_rfl) ?_ _
                go_wp2_with fail
                exact ⟨⟨s + 1, true, hlt5, rfl, by go_num, hds.drew, hfin⟩, by simp [intOf]; omega⟩
              · have hts := str_ne hte
                have hfin : Hid (false = (a.take (s + 1)).any fun e => decide (e.2.1 = t)) := by show _ = _; rw [hsn]; simp [hte]
                clear hsn hbo hue g0 g1 g2 t0 hte
                go_wp2_with fail
                refine wp_region_held_drew (S := fun u => u.cell? ⟨ba, oa + s * 3 + 1, none⟩ = some (.string e.2.1) ∧ u.cell? ⟨bt, ot + p, none⟩ = some (.string t)) (by kernel_rfl) ?_ (fun hHeld => ?_)
                · exact K0 _ (Bw.drew (Below.refl _ _))
                refine wpAnyH_take (i := 0) (oi := { dst := some 156, op := Go.Op.move (Go.Operand.tmp 15), type := 4, pos := "law.go:135", after := #[], guard := none }) (v := ?v93) rfl (by kernel_rfl) (by kernel_rfl) (by kernel_rfl) (fun _ _ _ h => h) (Or.inl ⟨by rfl, ?hy93⟩) (by assumption) ?_
                case hy93 => (intro w hSw; (try dsimp only at hSw); go_simp; try with_reducible rfl)
                try simp only [Act.put, List.setIfInBounds_toArray, List.set_cons_zero, List.set_cons_succ]
                refine wpAnyH_take (i := 1) (oi := { dst := some 157, op := Go.Op.move (Go.Operand.tmp 156), type := 4, pos := "law.go:135", after := #[{ on := 0, ground := Go.Ground.data }], guard := none }) (v := ?v94) rfl (by kernel_rfl) (by kernel_rfl) (by kernel_rfl) (fun _ _ _ h => h) (Or.inl ⟨by rfl, ?hy94⟩) (by assumption) ?_
                case hy94 => (intro w hSw; (try dsimp only at hSw); go_simp; try with_reducible rfl)
                try simp only [Act.put, List.setIfInBounds_toArray, List.set_cons_zero, List.set_cons_succ]
                refine wpAnyH_take (i := 2) (oi := { dst := some 158, op := Go.Op.move (Go.Operand.tmp 11), type := 28, pos := "law.go:135", after := #[{ on := 1, ground := Go.Ground.guard }], guard := some (1, false) }) (v := ?v95) rfl (by kernel_rfl) (by kernel_rfl) (by kernel_rfl) (fun _ _ _ h => h) (Or.inl ⟨by rfl, ?hy95⟩) (by assumption) ?_
                case hy95 => (intro w hSw; (try dsimp only at hSw); go_simp; try with_reducible rfl)
                try simp only [Act.put, List.setIfInBounds_toArray, List.set_cons_zero, List.set_cons_succ]
                refine wpAnyH_take (i := 3) (oi := { dst := some 159, op := Go.Op.move (Go.Operand.tmp 16), type := 3, pos := "law.go:135", after := #[{ on := 1, ground := Go.Ground.guard }], guard := some (1, false) }) (v := ?v96) rfl (by kernel_rfl) (by kernel_rfl) (by kernel_rfl) (fun _ _ _ h => h) (Or.inl ⟨by rfl, ?hy96⟩) (by assumption) ?_
                case hy96 => (intro w hSw; (try dsimp only at hSw); go_simp; try with_reducible rfl)
                try simp only [Act.put, List.setIfInBounds_toArray, List.set_cons_zero, List.set_cons_succ]
                refine wpAnyH_take (i := 4) (oi := { dst := some 160, op := Go.Op.indexAddr 28 (Go.Operand.tmp 158) (Go.Operand.tmp 159), type := 0, pos := "law.go:135", after := #[{ on := 2, ground := Go.Ground.data }, { on := 3, ground := Go.Ground.data }, { on := 1, ground := Go.Ground.guard }], guard := some (1, false) }) (v := ?v97) rfl (by kernel_rfl) (by kernel_rfl) (by kernel_rfl) (fun _ _ _ h => h) (Or.inl ⟨by rfl, ?hy97⟩) (by assumption) ?_
                case hy97 => (intro w hSw; (try dsimp only at hSw); go_simp; try with_reducible rfl)
                try simp only [Act.put, List.setIfInBounds_toArray, List.set_cons_zero, List.set_cons_succ]
                refine wpAnyH_take (i := 5) (oi := { dst := some 161, op := Go.Op.fieldAddr 37 (Go.Operand.tmp 160) 1, type := 0, pos := "law.go:135", after := #[{ on := 4, ground := Go.Ground.data }, { on := 1, ground := Go.Ground.guard }], guard := some (1, false) }) (v := ?v98) rfl (by kernel_rfl) (by kernel_rfl) (by kernel_rfl) (fun _ _ _ h => h) (Or.inl ⟨by rfl, ?hy98⟩) (by assumption) ?_
                case hy98 => (intro w hSw; (try dsimp only at hSw); go_simp; try with_reducible rfl)
                try simp only [Act.put, List.setIfInBounds_toArray, List.set_cons_zero, List.set_cons_succ]
                refine wpAnyH_take (i := 6) (oi := { dst := some 162, op := Go.Op.load 9 (Go.Operand.tmp 161), type := 9, pos := "law.go:135", after := #[{ on := 5, ground := Go.Ground.data }, { on := 1, ground := Go.Ground.guard }], guard := some (1, false) }) (v := ?v99) rfl (by kernel_rfl) (by kernel_rfl) (by kernel_rfl) (fun _ _ _ h => h) (Or.inl ⟨by rfl, ?hy99⟩) (by assumption) ?_
                case hy99 => (intro w hSw; (try dsimp only at hSw); go_simp; try with_reducible rfl)
                try simp only [Act.put, List.setIfInBounds_toArray, List.set_cons_zero, List.set_cons_succ]
                refine wpAnyH_take (i := 7) (oi := { dst := some 163, op := Go.Op.move (Go.Operand.tmp 13), type := 39, pos := "law.go:135", after := #[{ on := 1, ground := Go.Ground.guard }], guard := some (1, false) }) (v := ?v100) rfl (by kernel_rfl) (by kernel_rfl) (by kernel_rfl) (fun _ _ _ h => h) (Or.inl ⟨by rfl, ?hy100⟩) (by assumption) ?_
                case hy100 => (intro w hSw; (try dsimp only at hSw); go_simp; try with_reducible rfl)
                try simp only [Act.put, List.setIfInBounds_toArray, List.set_cons_zero, List.set_cons_succ]
                refine wpAnyH_take (i := 8) (oi := { dst := some 164, op := Go.Op.move (Go.Operand.tmp 14), type := 3, pos := "law.go:135", after := #[{ on := 1, ground := Go.Ground.guard }], guard := some (1, false) }) (v := ?v101) rfl (by kernel_rfl) (by kernel_rfl) (by kernel_rfl) (fun _ _ _ h => h) (Or.inl ⟨by rfl, ?hy101⟩) (by assumption) ?_
                case hy101 => (intro w hSw; (try dsimp only at hSw); go_simp; try with_reducible rfl)
                try simp only [Act.put, List.setIfInBounds_toArray, List.set_cons_zero, List.set_cons_succ]
                refine wpAnyH_take (i := 9) (oi := { dst := some 165, op := Go.Op.indexAddr 39 (Go.Operand.tmp 163) (Go.Operand.tmp 164), type := 0, pos := "law.go:135", after := #[{ on := 7, ground := Go.Ground.data }, { on := 8, ground := Go.Ground.data }, { on := 1, ground := Go.Ground.guard }], guard := some (1, false) }) (v := ?v102) rfl (by kernel_rfl) (by kernel_rfl) (by kernel_rfl) (fun _ _ _ h => h) (Or.inl ⟨by rfl, ?hy102⟩) (by assumption) ?_
                case hy102 => (intro w hSw; (try dsimp only at hSw); go_simp; try with_reducible rfl)
                try simp only [Act.put, List.setIfInBounds_toArray, List.set_cons_zero, List.set_cons_succ]
                refine wpAnyH_take (i := 10) (oi := { dst := some 166, op := Go.Op.load 9 (Go.Operand.tmp 165), type := 9, pos := "law.go:135", after := #[{ on := 9, ground := Go.Ground.data }, { on := 1, ground := Go.Ground.guard }], guard := some (1, false) }) (v := ?v103) rfl (by kernel_rfl) (by kernel_rfl) (by kernel_rfl) (fun _ _ _ h => h) (Or.inl ⟨by rfl, ?hy103⟩) (by assumption) ?_
                case hy103 => (intro w hSw; (try dsimp only at hSw); go_simp; try with_reducible rfl)
                try simp only [Act.put, List.setIfInBounds_toArray, List.set_cons_zero, List.set_cons_succ]
                refine wpAnyH_take (i := 11) (oi := { dst := some 167, op := Go.Op.binOp Go.BinOp.eql 9 (Go.Operand.tmp 162) (Go.Operand.tmp 166) 9, type := 4, pos := "law.go:135", after := #[{ on := 6, ground := Go.Ground.data }, { on := 10, ground := Go.Ground.data }, { on := 1, ground := Go.Ground.guard }], guard := some (1, false) }) (v := Value.bool false) rfl (by kernel_rfl) (by kernel_rfl) (by kernel_rfl) (fun _ _ _ h => h) (Or.inl ⟨by rfl, ?hy104⟩) (by assumption) ?_
                case hy104 => (intro w hSw; (try dsimp only at hSw); go_simp)
                try simp only [Act.put, List.setIfInBounds_toArray, List.set_cons_zero, List.set_cons_succ]
                refine wpAnyH_take (i := 12) (oi := { dst := some 168, op := Go.Op.pick (Go.Operand.tmp 157) (Go.Operand.const (Go.Value.bool true)) (Go.Operand.tmp 167), type := 4, pos := "law.go:135", after := #[{ on := 1, ground := Go.Ground.data }, { on := 11, ground := Go.Ground.data }], guard := none }) (v := ?v105) rfl (by kernel_rfl) (by kernel_rfl) (by kernel_rfl) (fun _ _ _ h => h) (Or.inl ⟨by rfl, ?hy105⟩) (by assumption) ?_
                case hy105 => (intro w hSw; (try dsimp only at hSw); go_simp; try with_reducible rfl)
                try simp only [Act.put, List.setIfInBounds_toArray, List.set_cons_zero, List.set_cons_succ]
                refine wpAnyH_take (i := 13) (oi := { dst := some 15, op := Go.Op.assign (Go.Operand.tmp 168), type := 4, pos := "law.go:135", after := #[{ on := 12, ground := Go.Ground.data }, { on := 1, ground := Go.Ground.chain }, { on := 0, ground := Go.Ground.phase }, { on := 1, ground := Go.Ground.phase }, { on := 2, ground := Go.Ground.phase }, { on := 3, ground := Go.Ground.phase }, { on := 4, ground := Go.Ground.phase }, { on := 5, ground := Go.Ground.phase }, { on := 6, ground := Go.Ground.phase }, { on := 7, ground := Go.Ground.phase }, { on := 8, ground := Go.Ground.phase }, { on := 9, ground := Go.Ground.phase }, { on := 10, ground := Go.Ground.phase }, { on := 11, ground := Go.Ground.phase }, { on := 12, ground := Go.Ground.phase }], guard := none }) (v := ?v106) rfl (by kernel_rfl) (by kernel_rfl) (by kernel_rfl) (fun _ _ _ h => h) (Or.inl ⟨by rfl, ?hy106⟩) (by assumption) ?_
                case hy106 => (intro w hSw; (try dsimp only at hSw); go_simp; try with_reducible rfl)
                try simp only [Act.put, List.setIfInBounds_toArray, List.set_cons_zero, List.set_cons_succ]
                refine wpAnyH_done (by kernel_rfl) ?_ _
                go_wp2_with fail
                exact ⟨⟨s + 1, false, hlt5, rfl, by go_num, hds.drew, hfin⟩, by simp [intOf]; omega⟩
            · have hfin : Hid (true = (a.take (s + 1)).any fun e => decide (e.2.1 = t)) := by show _ = _; rw [hsn]; simp
              clear hsn hbo hue g0 g1 g2 t0
              go_wp2_with fail
              refine wp_region_held_drew (S := fun u => u.cell? ⟨ba, oa + s * 3 + 1, none⟩ = some (.string e.2.1) ∧ u.cell? ⟨bt, ot + p, none⟩ = some (.string t)) (by kernel_rfl) ?_ (fun hHeld => ?_)
              · exact K0 _ (Bw.drew (Below.refl _ _))
              refine wpAnyH_take (i := 0) (oi := { dst := some 156, op := Go.Op.move (Go.Operand.tmp 15), type := 4, pos := "law.go:135", after := #[], guard := none }) (v := ?v107) rfl (by kernel_rfl) (by kernel_rfl) (by kernel_rfl) (fun _ _ _ h => h) (Or.inl ⟨by rfl, ?hy107⟩) (by assumption) ?_
              case hy107 => (intro w hSw; (try dsimp only at hSw); go_simp; try with_reducible rfl)
              try simp only [Act.put, List.setIfInBounds_toArray, List.set_cons_zero, List.set_cons_succ]
              refine wpAnyH_take (i := 1) (oi := { dst := some 157, op := Go.Op.move (Go.Operand.tmp 156), type := 4, pos := "law.go:135", after := #[{ on := 0, ground := Go.Ground.data }], guard := none }) (v := ?v108) rfl (by kernel_rfl) (by kernel_rfl) (by kernel_rfl) (fun _ _ _ h => h) (Or.inl ⟨by rfl, ?hy108⟩) (by assumption) ?_
              case hy108 => (intro w hSw; (try dsimp only at hSw); go_simp; try with_reducible rfl)
              try simp only [Act.put, List.setIfInBounds_toArray, List.set_cons_zero, List.set_cons_succ]
              refine wpAnyH_take (i := 2) (oi := { dst := some 158, op := Go.Op.move (Go.Operand.tmp 11), type := 28, pos := "law.go:135", after := #[{ on := 1, ground := Go.Ground.guard }], guard := some (1, false) }) (v := undef) rfl (by kernel_rfl) (by kernel_rfl) (by kernel_rfl) (fun _ _ _ h => h) (Or.inr ⟨by rfl, rfl⟩) (by assumption) ?_
              try simp only [Act.put, List.setIfInBounds_toArray, List.set_cons_zero, List.set_cons_succ]
              refine wpAnyH_take (i := 3) (oi := { dst := some 159, op := Go.Op.move (Go.Operand.tmp 16), type := 3, pos := "law.go:135", after := #[{ on := 1, ground := Go.Ground.guard }], guard := some (1, false) }) (v := undef) rfl (by kernel_rfl) (by kernel_rfl) (by kernel_rfl) (fun _ _ _ h => h) (Or.inr ⟨by rfl, rfl⟩) (by assumption) ?_
              try simp only [Act.put, List.setIfInBounds_toArray, List.set_cons_zero, List.set_cons_succ]
              refine wpAnyH_take (i := 4) (oi := { dst := some 160, op := Go.Op.indexAddr 28 (Go.Operand.tmp 158) (Go.Operand.tmp 159), type := 0, pos := "law.go:135", after := #[{ on := 2, ground := Go.Ground.data }, { on := 3, ground := Go.Ground.data }, { on := 1, ground := Go.Ground.guard }], guard := some (1, false) }) (v := undef) rfl (by kernel_rfl) (by kernel_rfl) (by kernel_rfl) (fun _ _ _ h => h) (Or.inr ⟨by rfl, rfl⟩) (by assumption) ?_
              try simp only [Act.put, List.setIfInBounds_toArray, List.set_cons_zero, List.set_cons_succ]
              refine wpAnyH_take (i := 5) (oi := { dst := some 161, op := Go.Op.fieldAddr 37 (Go.Operand.tmp 160) 1, type := 0, pos := "law.go:135", after := #[{ on := 4, ground := Go.Ground.data }, { on := 1, ground := Go.Ground.guard }], guard := some (1, false) }) (v := undef) rfl (by kernel_rfl) (by kernel_rfl) (by kernel_rfl) (fun _ _ _ h => h) (Or.inr ⟨by rfl, rfl⟩) (by assumption) ?_
              try simp only [Act.put, List.setIfInBounds_toArray, List.set_cons_zero, List.set_cons_succ]
              refine wpAnyH_take (i := 6) (oi := { dst := some 162, op := Go.Op.load 9 (Go.Operand.tmp 161), type := 9, pos := "law.go:135", after := #[{ on := 5, ground := Go.Ground.data }, { on := 1, ground := Go.Ground.guard }], guard := some (1, false) }) (v := undef) rfl (by kernel_rfl) (by kernel_rfl) (by kernel_rfl) (fun _ _ _ h => h) (Or.inr ⟨by rfl, rfl⟩) (by assumption) ?_
              try simp only [Act.put, List.setIfInBounds_toArray, List.set_cons_zero, List.set_cons_succ]
              refine wpAnyH_take (i := 7) (oi := { dst := some 163, op := Go.Op.move (Go.Operand.tmp 13), type := 39, pos := "law.go:135", after := #[{ on := 1, ground := Go.Ground.guard }], guard := some (1, false) }) (v := undef) rfl (by kernel_rfl) (by kernel_rfl) (by kernel_rfl) (fun _ _ _ h => h) (Or.inr ⟨by rfl, rfl⟩) (by assumption) ?_
              try simp only [Act.put, List.setIfInBounds_toArray, List.set_cons_zero, List.set_cons_succ]
              refine wpAnyH_take (i := 8) (oi := { dst := some 164, op := Go.Op.move (Go.Operand.tmp 14), type := 3, pos := "law.go:135", after := #[{ on := 1, ground := Go.Ground.guard }], guard := some (1, false) }) (v := undef) rfl (by kernel_rfl) (by kernel_rfl) (by kernel_rfl) (fun _ _ _ h => h) (Or.inr ⟨by rfl, rfl⟩) (by assumption) ?_
              try simp only [Act.put, List.setIfInBounds_toArray, List.set_cons_zero, List.set_cons_succ]
              refine wpAnyH_take (i := 9) (oi := { dst := some 165, op := Go.Op.indexAddr 39 (Go.Operand.tmp 163) (Go.Operand.tmp 164), type := 0, pos := "law.go:135", after := #[{ on := 7, ground := Go.Ground.data }, { on := 8, ground := Go.Ground.data }, { on := 1, ground := Go.Ground.guard }], guard := some (1, false) }) (v := undef) rfl (by kernel_rfl) (by kernel_rfl) (by kernel_rfl) (fun _ _ _ h => h) (Or.inr ⟨by rfl, rfl⟩) (by assumption) ?_
              try simp only [Act.put, List.setIfInBounds_toArray, List.set_cons_zero, List.set_cons_succ]
              refine wpAnyH_take (i := 10) (oi := { dst := some 166, op := Go.Op.load 9 (Go.Operand.tmp 165), type := 9, pos := "law.go:135", after := #[{ on := 9, ground := Go.Ground.data }, { on := 1, ground := Go.Ground.guard }], guard := some (1, false) }) (v := undef) rfl (by kernel_rfl) (by kernel_rfl) (by kernel_rfl) (fun _ _ _ h => h) (Or.inr ⟨by rfl, rfl⟩) (by assumption) ?_
              try simp only [Act.put, List.setIfInBounds_toArray, List.set_cons_zero, List.set_cons_succ]
              refine wpAnyH_take (i := 11) (oi := { dst := some 167, op := Go.Op.binOp Go.BinOp.eql 9 (Go.Operand.tmp 162) (Go.Operand.tmp 166) 9, type := 4, pos := "law.go:135", after := #[{ on := 6, ground := Go.Ground.data }, { on := 10, ground := Go.Ground.data }, { on := 1, ground := Go.Ground.guard }], guard := some (1, false) }) (v := undef) rfl (by kernel_rfl) (by kernel_rfl) (by kernel_rfl) (fun _ _ _ h => h) (Or.inr ⟨by rfl, rfl⟩) (by assumption) ?_
              try simp only [Act.put, List.setIfInBounds_toArray, List.set_cons_zero, List.set_cons_succ]
              refine wpAnyH_take (i := 12) (oi := { dst := some 168, op := Go.Op.pick (Go.Operand.tmp 157) (Go.Operand.const (Go.Value.bool true)) (Go.Operand.tmp 167), type := 4, pos := "law.go:135", after := #[{ on := 1, ground := Go.Ground.data }, { on := 11, ground := Go.Ground.data }], guard := none }) (v := ?v109) rfl (by kernel_rfl) (by kernel_rfl) (by kernel_rfl) (fun _ _ _ h => h) (Or.inl ⟨by rfl, ?hy109⟩) (by assumption) ?_
              case hy109 => (intro w hSw; (try dsimp only at hSw); go_simp; try with_reducible rfl)
              try simp only [Act.put, List.setIfInBounds_toArray, List.set_cons_zero, List.set_cons_succ]
              refine wpAnyH_take (i := 13) (oi := { dst := some 15, op := Go.Op.assign (Go.Operand.tmp 168), type := 4, pos := "law.go:135", after := #[{ on := 12, ground := Go.Ground.data }, { on := 1, ground := Go.Ground.chain }, { on := 0, ground := Go.Ground.phase }, { on := 1, ground := Go.Ground.phase }, { on := 2, ground := Go.Ground.phase }, { on := 3, ground := Go.Ground.phase }, { on := 4, ground := Go.Ground.phase }, { on := 5, ground := Go.Ground.phase }, { on := 6, ground := Go.Ground.phase }, { on := 7, ground := Go.Ground.phase }, { on := 8, ground := Go.Ground.phase }, { on := 9, ground := Go.Ground.phase }, { on := 10, ground := Go.Ground.phase }, { on := 11, ground := Go.Ground.phase }, { on := 12, ground := Go.Ground.phase }], guard := none }) (v := ?v110) rfl (by kernel_rfl) (by kernel_rfl) (by kernel_rfl) (fun _ _ _ h => h) (Or.inl ⟨by rfl, ?hy110⟩) (by assumption) ?_
              case hy110 => (intro w hSw; (try dsimp only at hSw); go_simp; try with_reducible rfl)
              try simp only [Act.put, List.setIfInBounds_toArray, List.set_cons_zero, List.set_cons_succ]
              refine wpAnyH_done (by kernel_rfl) ?_ _
              go_wp2_with fail
              exact ⟨⟨s + 1, true, hlt5, rfl, by go_num, hds.drew, hfin⟩, by simp [intOf]; omega⟩
end Go.Proofs.YtonadloonidmjaaDoor

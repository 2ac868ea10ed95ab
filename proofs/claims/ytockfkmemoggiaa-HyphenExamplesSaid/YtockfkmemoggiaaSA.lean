/- The contract of the program's 'divide': the syllables of a word. -/
import Derived.Test.YtockfkmemoggiaaS8
import Derived.Test.YtockfkmemoggiaaS9
import Derived.Test.YtockfkmemoggiaaS2
import Derived.Deep.CutBlock
import Derived.Deep.DeepCutAuto
import Derived.Deep.RegionHeld3
namespace Go.Proofs.Ytockfkmemoggiaa
open Go.RowKit Go.Maps
open Pl

theorem back_go {p : Int → Bool} {x : List Int} {j : Nat} {y : Int} (hj : 0 < j) (hy : x[j - 1]? = some y) (hp : p y = true) : back p x (j - 1) = back p x j := by
  obtain ⟨m, rfl⟩ : ∃ m, j = m + 1 := ⟨j - 1, by omega⟩
  conv => rhs; unfold back
  rw [if_pos (by rw [getD_of (show x[m]? = some y from hy)]; exact hp)]
  rfl
theorem back_stay {p : Int → Bool} {x : List Int} {j : Nat} {y : Int} (hj : 0 < j) (hy : x[j - 1]? = some y) (hp : p y = false) : back p x j = j := by
  obtain ⟨m, rfl⟩ : ∃ m, j = m + 1 := ⟨j - 1, by omega⟩
  unfold back
  rw [if_neg (by rw [getD_of (show x[m]? = some y from hy), hp]; simp)]

theorem SetV.lookN {w : World} {v : Value} {S : List Int} (h : SetV w v S) {y : Int} (h1 : -9223372036854775808 ≤ y) (h2 : y ≤ 9223372036854775807) :
    ∀ n, (Instr.lookup 44 v (.int .i64 y) false).run Try.prog (w.drewN n) = .ok (.bool (hasB S y)) (w.drewN n) := fun n => (h.dn n).look h1 h2

theorem dv_none {s : Snd} {x : List Int} {f e : Nat} {acc : List (List Int)} (h : cutAt s x e = none) (hf : e < f) : dv s x f e acc = if 0 < e then acc ++ [cut x 0 e] else acc := by
  obtain ⟨g, rfl⟩ : ∃ g, f = g + 1 := ⟨f - 1, by omega⟩
  unfold dv; rw [h]
theorem dv_some {s : Snd} {x : List Int} {f e a : Nat} {acc : List (List Int)} (h : cutAt s x e = some a) (hf : e < f) : dv s x f e acc = dv s x (f - 1) a (acc ++ [cut x a e]) := by
  obtain ⟨g, rfl⟩ : ∃ g, f = g + 1 := ⟨f - 1, by omega⟩
  conv => lhs; unfold dv
  rw [h]
  rfl

theorem infoS : (Try.prog.info? 22).map (fun i => (i.zero, i.size, i.bytes)) = some (some (.slice none 0 0), 1, 24) := by kernel_rfl

set_option maxRecDepth 100000 in
set_option maxHeartbeats 4000000 in
theorem divide_any {a b c v : Value} {s : Snd} {x : List Int} {w : World} (hab : SetsR w a b s) (h : OnsV w c s.ons) (hx : Rd tInt w v x) (hl : x.length ≤ 200) (hsym : ∀ y ∈ x, 1 ≤ y ∧ y ≤ 500) (hAp : Ap s) (hWd : Wd s x) (hlen : ∀ o ∈ s.ons, 1 ≤ o.length ∧ o.length ≤ 4) :
    Calls Try.prog 24 #[.agg #[a, b, c], v] w (Fr (tSlice tInt) w (sylP s x)) := by
  obtain ⟨X, cx, rfl, hlc, _⟩ := hx.form
  obtain ⟨i0, hi, hz0, hz1, hz2⟩ := info_parts infoS
  obtain ⟨i3, hi3, _, h31, _⟩ := info_parts infoI
  have H31 := Lib.hid h31
  clear h31
  have hB0 : Bw w (w.alloc (.cells #[a, b, c] 47)) := (Below.refl _ _).alloc (Nat.le_refl _) _
  have hbox : (w.alloc (.cells #[a, b, c] 47)).heap[w.heap.size]? = some (.cells #[a, b, c] 47 (0, 0)) := at_new rfl
  have hsz : (w.alloc (.cells #[a, b, c] 47)).heap.size = w.heap.size + 1 := by simp
  have Hbox := Lib.hid hbox
  have Hsz := Lib.hid hsz
  clear hbox hsz
  go_enter Try.func24, Try.ntmps24
  go_wp2_with fail
  go_step3
  go_wp2_with fail
  go_step3
  go_wp2_with fail
  go_loopw [5, 6, 7] (fun l en i wr => ∃ (e f : Nat) (acc : List (List Int)), e ≤ x.length ∧ en = .int .i64 e ∧ i = .int .i64 e ∧ e < f ∧ acc.length + e ≤ x.length ∧ Hid (dv s x f e acc = dv s x (x.length + 1) x.length []) ∧
      Bw (w.alloc (.cells #[a, b, c] 47)) wr ∧ Acc (tSlice tInt) 22 wr (w.heap.size + 1) l acc) (fun _ en _ _ => (intOf en).toNat)
  case atStart => exact ⟨x.length, x.length + 1, [], Nat.le_refl _, rfl, rfl, by omega, by simp, rfl, Below.refl _ _, Acc.nil _ _⟩
  case round =>
    rename World => wo
    obtain ⟨e, f, acc, he, rfl, rfl, hf, hacc, hdv, hbw, hA⟩ := hrel
    have hz1' : w.heap.size < wo.heap.size := by have := hbw.size; rw [Hsz.out] at this; omega
    have hbx : wo.heap[w.heap.size]? = some (.cells #[a, b, c] 47 (0, 0)) := (hbw.block _ (by rw [Hsz.out]; omega)).trans Hbox.out
    have c0 : wo.cell? ⟨w.heap.size, 0, none⟩ = some a := cell_of_row wo _ 0 _ 47 (0, 0) hbx
    have c1 : wo.cell? ⟨w.heap.size, 1, none⟩ = some b := cell_of_row wo _ 1 _ 47 (0, 0) hbx
    have c2 : wo.cell? ⟨w.heap.size, 2, none⟩ = some c := cell_of_row wo _ 2 _ 47 (0, 0) hbx
    have hb1 := hB0.then hbw
    have hx1 := hx.after hb1
    have hv1 := hab.vow.after hb1
    have hc1 := hab.con.after hb1
    have ho1 := h.after hb1
    have hle1 := back_le (hasB s.con) x e
    have hle2 := back_le (hasB s.vow) x (back (hasB s.con) x e)
    have hle3 := back_le (hasB s.con) x (back (hasB s.vow) x (back (hasB s.con) x e))
    have Hbx := Lib.hid hbx
    clear hbx
    have Hct : Hid (cutAt s x e = if back (hasB s.con) x (back (hasB s.vow) x (back (hasB s.con) x e)) = 0 then none else some (atP s x (back (hasB s.vow) x (back (hasB s.con) x e)) (min 4 (back (hasB s.vow) x (back (hasB s.con) x e) - back (hasB s.con) x (back (hasB s.vow) x (back (hasB s.con) x e)))))) := rfl
    go_upto_block 2 with fail
    go_cut [7] (fun i wx => i = .int .i64 (back (hasB s.con) x e) ∧ Dr wo wx)
    case first =>
      go_wp2_with fail
      go_loopw [7] (fun i wx => ∃ j : Nat, j ≤ e ∧ i = .int .i64 j ∧ Dr wo wx ∧ back (hasB s.con) x j = back (hasB s.con) x (e)) (fun i _ => (intOf i).toNat)
      case atStart => exact ⟨e, Nat.le_refl _, rfl, Dr.refl _, rfl⟩
      case round =>
        obtain ⟨j, hj, rfl, ⟨n, rfl⟩, hbk⟩ := hrel
        have Hbk := Lib.hid hbk
        clear hbk
        by_cases h0 : 0 < j
        · obtain ⟨bx, ox, y, rfl, hy, hy1, hy2, hcx⟩ := hx1.int (k := j - 1) (by omega)
          have lk := hc1.lookN hy1 hy2
          have e1 : ((j : Int) - 1).toNat = j - 1 := by omega
          have e2 : (0 : Int) ≤ (j : Int) - 1 := by omega
          have e3 : (j : Int) - 1 < x.length := by omega
          have d0 : decide ((0 : Int) < (j : Int)) = true := by simpa using h0
          cases p : hasB s.con y <;> have Hp := Lib.hid p <;> rw [p] at lk <;> clear p
          · go_wp2_with fail
            go_quiet (fail)
            go_wp2_with fail
            go_meet
            exact ⟨by rw [← Hbk.out, back_stay h0 hy.out Hp.out], (Dr.refl _).drewN _ |>.drewN _⟩
          · go_wp2_with fail
            go_quiet (fail)
            go_wp2_with fail
            exact ⟨⟨j - 1, by omega, by go_num, (Dr.refl _).drewN _, (back_go h0 hy.out Hp.out).trans Hbk.out⟩, by simp [intOf]; omega⟩
        · have hj0 : j = 0 := by omega
          subst hj0
          have d0 : decide ((0 : Int) < ((0 : Nat) : Int)) = false := rfl
          go_wp2_with fail
          go_quiet (fail)
          go_wp2_with fail
          go_meet
          exact ⟨by rw [← Hbk.out]; rfl, (Dr.refl _).drewN _ |>.drewN _⟩
    case rest =>
    obtain ⟨rfl, ⟨n1, rfl⟩⟩ := hcut
    generalize back (hasB s.con) x e = i1 at *
    go_upto_block 4 with fail
    go_cut [7] (fun i wx => i = .int .i64 (back (hasB s.vow) x i1) ∧ Dr wo wx)
    case first =>
      go_wp2_with fail
      go_loopw [7] (fun i wx => ∃ j : Nat, j ≤ i1 ∧ i = .int .i64 j ∧ Dr wo wx ∧ back (hasB s.vow) x j = back (hasB s.vow) x (i1)) (fun i _ => (intOf i).toNat)
      case atStart => exact ⟨i1, Nat.le_refl _, rfl, ⟨n1, rfl⟩, rfl⟩
      case round =>
        obtain ⟨j, hj, rfl, ⟨n, rfl⟩, hbk⟩ := hrel
        have Hbk := Lib.hid hbk
        clear hbk
        by_cases h0 : 0 < j
        · obtain ⟨bx, ox, y, rfl, hy, hy1, hy2, hcx⟩ := hx1.int (k := j - 1) (by omega)
          have lk := hv1.lookN hy1 hy2
          have e1 : ((j : Int) - 1).toNat = j - 1 := by omega
          have e2 : (0 : Int) ≤ (j : Int) - 1 := by omega
          have e3 : (j : Int) - 1 < x.length := by omega
          have d0 : decide ((0 : Int) < (j : Int)) = true := by simpa using h0
          cases p : hasB s.vow y <;> have Hp := Lib.hid p <;> rw [p] at lk <;> clear p
          · go_wp2_with fail
            go_quiet (fail)
            go_wp2_with fail
            go_meet
            exact ⟨by rw [← Hbk.out, back_stay h0 hy.out Hp.out], (Dr.refl _).drewN _ |>.drewN _⟩
          · go_wp2_with fail
            go_quiet (fail)
            go_wp2_with fail
            exact ⟨⟨j - 1, by omega, by go_num, (Dr.refl _).drewN _, (back_go h0 hy.out Hp.out).trans Hbk.out⟩, by simp [intOf]; omega⟩
        · have hj0 : j = 0 := by omega
          subst hj0
          have d0 : decide ((0 : Int) < ((0 : Nat) : Int)) = false := rfl
          go_wp2_with fail
          go_quiet (fail)
          go_wp2_with fail
          go_meet
          exact ⟨by rw [← Hbk.out]; rfl, (Dr.refl _).drewN _ |>.drewN _⟩
    case rest =>
    obtain ⟨rfl, ⟨n2, rfl⟩⟩ := hcut
    generalize back (hasB s.vow) x i1 = i2 at *
    go_upto_block 6 with fail
    go_cut [8] (fun i wx => i = .int .i64 (back (hasB s.con) x i2) ∧ Dr wo wx)
    case first =>
      go_wp2_with fail
      go_loopw [8] (fun i wx => ∃ j : Nat, j ≤ i2 ∧ i = .int .i64 j ∧ Dr wo wx ∧ back (hasB s.con) x j = back (hasB s.con) x (i2)) (fun i _ => (intOf i).toNat)
      case atStart => exact ⟨i2, Nat.le_refl _, rfl, ⟨n2, rfl⟩, rfl⟩
      case round =>
        obtain ⟨j, hj, rfl, ⟨n, rfl⟩, hbk⟩ := hrel
        have Hbk := Lib.hid hbk
        clear hbk
        by_cases h0 : 0 < j
        · obtain ⟨bx, ox, y, rfl, hy, hy1, hy2, hcx⟩ := hx1.int (k := j - 1) (by omega)
          have lk := hc1.lookN hy1 hy2
          have e1 : ((j : Int) - 1).toNat = j - 1 := by omega
          have e2 : (0 : Int) ≤ (j : Int) - 1 := by omega
          have e3 : (j : Int) - 1 < x.length := by omega
          have d0 : decide ((0 : Int) < (j : Int)) = true := by simpa using h0
          cases p : hasB s.con y <;> have Hp := Lib.hid p <;> rw [p] at lk <;> clear p
          · go_wp2_with fail
            go_quiet (fail)
            go_wp2_with fail
            go_meet
            exact ⟨by rw [← Hbk.out, back_stay h0 hy.out Hp.out], (Dr.refl _).drewN _ |>.drewN _⟩
          · go_wp2_with fail
            go_quiet (fail)
            go_wp2_with fail
            exact ⟨⟨j - 1, by omega, by go_num, (Dr.refl _).drewN _, (back_go h0 hy.out Hp.out).trans Hbk.out⟩, by simp [intOf]; omega⟩
        · have hj0 : j = 0 := by omega
          subst hj0
          have d0 : decide ((0 : Int) < ((0 : Nat) : Int)) = false := rfl
          go_wp2_with fail
          go_quiet (fail)
          go_wp2_with fail
          go_meet
          exact ⟨by rw [← Hbk.out]; rfl, (Dr.refl _).drewN _ |>.drewN _⟩
    case rest =>
    obtain ⟨rfl, ⟨n3, rfl⟩⟩ := hcut
    generalize back (hasB s.con) x i2 = k at *
    have hA3 := hA.dn n3
    have hx3 := hx1.dn n3
    by_cases hk : k = 0
    · subst hk
      have hnone : cutAt s x e = none := by rw [Hct.out, if_pos rfl]
      have Hd := Lib.hid (hdv.out.symm.trans (dv_none hnone hf))
      clear hnone Hct
      by_cases h0 : 0 < e
      · have HC := Lib.hid (clone_any (hx3.pre he) (by rw [List.length_take]; omega))
        go_wp2_with fail
        refine HC.out.mono ?_
        rintro e' w2 ⟨u, rfl, hb2, hu⟩
        obtain ⟨U, un, uc, rfl, _, _, hun⟩ := hu.form'
        have hA2 := (hA3.after hb2).alloc (.cells #[.slice U un uc] 22)
        have hu2 : Sl tInt (w2.alloc (.cells #[.slice U un uc] 22)) (fun b => w.heap.size + 1 ≤ b ∧ some b ≠ u5.ownBlock) (.slice U un uc) (x.take e) :=
          (hu.lt.keep fun b hb => ⟨⟨by have := hb.1; simp at this; omega, fun e => by have := (hA3.own b e.symm).2; have := hb.1; simp at *; omega⟩, Below.heap_alloc w2 _ b hb.2⟩)
        go_wp2_with (at_builtin; refine wpList_app_one rfl _ _ rfl Try.underlying23 hi hz0 hz1 hz2 rfl rfl hA2 rfl (at_new rfl) ⟨_, rfl, hu2⟩ (by simp [maxLen]; omega) (by omega) (by have := hb2.size; simp at *; omega) ?_; intro v1 w3 hA3' hg3 hat3)
        have hb3 : Bw w w3 := Acc.bw (((hb1.drewN n3).then hb2).then ((Below.refl _ _).alloc (Nat.le_refl _) _)) hg3 (fun g e => (hA2.own g e).1) (Nat.le_succ _)
        refine (reverse_acc hA3' (by simp; omega)).mono ?_
        rintro e' w4 ⟨rfl, hg4, hA4⟩
        have hb4 : Bw w w4 := Acc.bw hb3 hg4 (fun g e => (hA3'.own g e).1) (Nat.le_succ _)
        go_wp2_with fail
        rw [Exit.noGoto_ret]
        go_ret
        refine ⟨_, rfl, hb4, ?_⟩
        have e1 : sylP s x = (acc ++ [x.take e]).reverse := by unfold sylP; rw [Hd.out, if_pos h0]; simp [cut]
        rw [e1]
        exact hA4.hi.weaken fun b hb => by have : w.heap.size + 1 ≤ b := hb; show w.heap.size ≤ b; omega
      · go_wp2_with fail
        refine (reverse_acc hA3 (by omega)).mono ?_
        rintro e' w2 ⟨rfl, hg2, hA2⟩
        have hb2 : Bw w w2 := Acc.bw (hb1.drewN n3) hg2 (fun g e => (hA3.own g e).1) (Nat.le_succ _)
        go_wp2_with fail
        rw [Exit.noGoto_ret]
        go_ret
        refine ⟨_, rfl, hb2, ?_⟩
        have e1 : sylP s x = acc.reverse := by unfold sylP; rw [Hd.out, if_neg h0]
        rw [e1]
        exact hA2.hi.weaken fun b hb => by have : w.heap.size + 1 ≤ b := hb; show w.heap.size ≤ b; omega
    · have hkb : ((k : Int) == 0) = false := by simpa using hk
      go_upto_block 8 with fail
      go_cut [9] (fun at_ wx => at_ = .int .i64 (atP s x i2 (min 4 (i2 - k))) ∧ Bw (wo.drewN n3) wx)
      case first =>
        go_wp2_with fail
        go_loopw [9, 10] (fun at_ n wx => ∃ m : Nat, m ≤ min 4 (i2 - k) ∧ n = .int .i64 ((m : Int) + 1) ∧ at_ = .int .i64 (atP s x i2 m) ∧ Bw (wo.drewN n3) wx) (fun _ n _ => 5 - (intOf n).toNat)
        case atStart => exact ⟨0, Nat.zero_le _, rfl, rfl, Below.refl _ _⟩
        case round =>
          obtain ⟨m, hm, rfl, rfl, hb⟩ := hrel
          by_cases hgo : m < 4 ∧ m < i2 - k
          · have hbx := ((hb1.drewN n3).then hb)
            have hltr : w.heap.size < wr.heap.size := Nat.lt_of_lt_of_le hz1' hb.size
            have hwx : wr.heap[w.heap.size]? = some (.cells #[a, b, c] 47 (0, 0)) := (hb.block _ hz1').trans Hbx.out
            have q0 : wr.cell? ⟨w.heap.size, 0, none⟩ = some a := cell_of_row wr _ 0 _ 47 (0, 0) hwx
            have q1 : wr.cell? ⟨w.heap.size, 1, none⟩ = some b := cell_of_row wr _ 1 _ 47 (0, 0) hwx
            have q2 : wr.cell? ⟨w.heap.size, 2, none⟩ = some c := cell_of_row wr _ 2 _ 47 (0, 0) hwx
            have hc' := (hx3.after hb).cut (l := i2 - (m + 1)) (n := i2) (m := m + 1) (by omega) (by omega) (by omega)
            have g1 : (m : Int) + 1 ≤ 4 := by omega
            have g2 : (k : Int) ≤ (i2 : Int) - ((m : Int) + 1) := by omega
            have g3 : ((i2 : Int) - ((m : Int) + 1)).toNat = i2 - (m + 1) := by omega
            have g4 : (0 : Int) ≤ (i2 : Int) - ((m : Int) + 1) := by omega
            have g5 : (i2 : Int) - ((m : Int) + 1) ≤ (i2 : Int) := by omega
            have g6 : (i2 : Int) ≤ (cx : Int) := by omega
            have g7 : ¬ cx = i2 - (m + 1) := by omega
            have g8 : ¬ i2 - (m + 1) = 0 := by omega
            rw [if_neg g7] at hc'
            obtain ⟨bx, ox, _, rfl, _⟩ := hx3.int (k := 0) (by omega)
            have eadd : (⟨bx, ox, none⟩ : Addr).add ((i2 - (m + 1)) * tInt.size) = ⟨bx, ox + (i2 - (m + 1)), none⟩ := by
              unfold Addr.add; rw [if_neg (by simp [tInt]; omega)]; simp [tInt]
            rw [Option.map_some, eadd] at hc'
            have hsl : ∀ W : World, (Instr.slice 22 (.slice (some ⟨bx, ox, none⟩) x.length cx) (some (.int .i64 ((i2 : Int) - ((m : Int) + 1)))) (some (.int .i64 (i2 : Int))) none).run Try.prog W = .ok (.slice (some ⟨bx, ox + (i2 - (m + 1)), none⟩) (m + 1) (cx - (i2 - (m + 1)))) W := by
              intro W
              have := run_cut_lh Try.underlying22 hi3 bx ox x.length cx (l := (i2 : Int) - ((m : Int) + 1)) (h := (i2 : Int)) (l' := i2 - (m + 1)) (h' := i2) (by omega) rfl (by omega) (by omega) (by omega) W
              rwa [H31.out, Nat.mul_one, show i2 - (i2 - (m + 1)) = m + 1 by omega] at this
            have hsm : ∀ y ∈ cut x (i2 - (m + 1)) i2, 1 ≤ y ∧ y ≤ 500 := fun y hy => hsym y (List.mem_of_mem_take (List.mem_of_mem_drop hy))
            have hon := ho1.after ((Dr.n wo n3).bw.then hb)
            clear g4 g5 g6 g7 g8 eadd
            have hwr : IntKind.i64.wrap ((i2 : Int) - ((m : Int) + 1)) = (i2 : Int) - ((m : Int) + 1) := IntWalk.i64_in _ (by omega)
            cases p : beginsB s (cut x (i2 - (m + 1)) i2) <;> have Hp := Lib.hid p <;> clear p hwx
            · go_wp2_with fail
              go_region_held3 (fun w' => w'.cell? ⟨w.heap.size, 0, none⟩ = some a ∧ w'.cell? ⟨w.heap.size, 1, none⟩ = some b ∧ w'.cell? ⟨w.heap.size, 2, none⟩ = some c)
                (first | exact ⟨q0, q1, q2⟩ | exact ⟨q0', q1', q2'⟩)
                (first | (go_at_call 40; refine (val_of (congrArg Value.bool Hp.out) (begins_any (hon.after (Bw.drew (Below.refl _ _))) (hc'.rd.after (Bw.drew (Below.refl _ _))) hsm)).mono ?_; rintro e' w2 ⟨rfl, hb2⟩; have q0' : w2.cell? ⟨w.heap.size, 0, none⟩ = some a := (hb2.cell (p := ⟨w.heap.size, 0, none⟩) hltr).trans q0; have q1' : w2.cell? ⟨w.heap.size, 1, none⟩ = some b := (hb2.cell (p := ⟨w.heap.size, 1, none⟩) hltr).trans q1; have q2' : w2.cell? ⟨w.heap.size, 2, none⟩ = some c := (hb2.cell (p := ⟨w.heap.size, 2, none⟩) hltr).trans q2))
              go_wp2_with fail
              refine ⟨⟨m + 1, by omega, by go_num, ?_, hb.then (Bw.then (Bw.drew (Below.refl _ _)) hb2)⟩, by simp [intOf]; omega⟩
              conv => rhs; unfold atP
              rw [Hp.out]; rfl
            · go_wp2_with fail
              go_region_held3 (fun w' => w'.cell? ⟨w.heap.size, 0, none⟩ = some a ∧ w'.cell? ⟨w.heap.size, 1, none⟩ = some b ∧ w'.cell? ⟨w.heap.size, 2, none⟩ = some c)
                (first | exact ⟨q0, q1, q2⟩ | exact ⟨q0', q1', q2'⟩)
                (first | (go_at_call 40; refine (val_of (congrArg Value.bool Hp.out) (begins_any (hon.after (Bw.drew (Below.refl _ _))) (hc'.rd.after (Bw.drew (Below.refl _ _))) hsm)).mono ?_; rintro e' w2 ⟨rfl, hb2⟩; have q0' : w2.cell? ⟨w.heap.size, 0, none⟩ = some a := (hb2.cell (p := ⟨w.heap.size, 0, none⟩) hltr).trans q0; have q1' : w2.cell? ⟨w.heap.size, 1, none⟩ = some b := (hb2.cell (p := ⟨w.heap.size, 1, none⟩) hltr).trans q1; have q2' : w2.cell? ⟨w.heap.size, 2, none⟩ = some c := (hb2.cell (p := ⟨w.heap.size, 2, none⟩) hltr).trans q2))
              go_wp2_with fail
              refine ⟨⟨m + 1, by omega, by go_num, ?_, hb.then (Bw.then (Bw.drew (Below.refl _ _)) hb2)⟩, by simp [intOf]; omega⟩
              conv => rhs; unfold atP
              rw [Hp.out, if_pos rfl]
              congr 1; omega
          · have hme : Hid (m = min 4 (i2 - k)) := by show m = min 4 (i2 - k); omega
            by_cases h4 : m = 4
            · subst h4
              go_wp2_with fail
              go_meet
              exact ⟨by rw [← hme.out], hb⟩
            · have g1 : (m : Int) + 1 ≤ 4 := by omega
              have g2 : ¬ (k : Int) ≤ (i2 : Int) - ((m : Int) + 1) := by omega
              go_wp2_with fail
              go_meet
              exact ⟨by rw [← hme.out], hb⟩
      case rest =>
        obtain ⟨rfl, hb⟩ := hcut
        have hsome : cutAt s x e = some (atP s x i2 (min 4 (i2 - k))) := by rw [Hct.out, if_neg hk]
        have Hd := Lib.hid (dv_some (acc := acc) hsome hf)
        obtain ⟨hat0, hat1, _⟩ := (sts_cut hAp hWd hlen e he).2 _ hsome
        clear hsome Hct
        generalize atP s x i2 (min 4 (i2 - k)) = at' at *
        have hbx := ((hb1.drewN n3).then hb)
        have hx4 := hx3.after hb
        obtain ⟨bx, ox, _, rfl, _⟩ := hx4.int (k := 0) (by omega)
        have hc' := hx4.cut (l := at') (n := e) (m := e - at') (by omega) (by omega) rfl
        have eadd : (⟨bx, ox, none⟩ : Addr).add (at' * tInt.size) = ⟨bx, ox + at', none⟩ := by
          unfold Addr.add; rw [show at' * tInt.size = at' by simp [tInt]]
          split
          · rename_i h0; rw [h0]; rfl
          · rfl
        rw [if_neg (by omega), Option.map_some, eadd] at hc'
        have hsl : ∀ W : World, (Instr.slice 22 (.slice (some ⟨bx, ox, none⟩) x.length cx) (some (.int .i64 (at' : Int))) (some (.int .i64 (e : Int))) none).run Try.prog W = .ok (.slice (some ⟨bx, ox + at', none⟩) (e - at') (cx - at')) W := by
          intro W
          have := run_cut_lh Try.underlying22 hi3 bx ox x.length cx (l := (at' : Int)) (h := (e : Int)) (l' := at') (h' := e) rfl rfl (by omega) (by omega) (by omega) W
          rwa [H31.out, Nat.mul_one] at this
        have HC := Lib.hid (clone_any hc'.rd (by rw [List.length_drop, List.length_take]; omega))
        clear eadd
        go_wp2_with fail
        refine HC.out.mono ?_
        rintro e' w2 ⟨u, rfl, hb2, hu⟩
        obtain ⟨U, un, uc, rfl, _, _, hun⟩ := hu.form'
        have hA2 := ((hA3.after hb).after hb2).alloc (.cells #[.slice U un uc] 22)
        have hu2 : Sl tInt (w2.alloc (.cells #[.slice U un uc] 22)) (fun b => w.heap.size + 1 ≤ b ∧ some b ≠ u5.ownBlock) (.slice U un uc) ((x.take e).drop at') :=
          (hu.lt.keep fun b hb' => ⟨⟨by have := hb'.1; have := hb.size; simp at *; omega, fun e => by have := (hA3.own b e.symm).2; have := hb'.1; have := hb.size; simp at *; omega⟩, Below.heap_alloc w2 _ b hb'.2⟩)
        have hz5 := hb2.size
        have hz6 := hb.size
        go_wp2_with (at_builtin; refine wpList_app_one rfl _ _ rfl Try.underlying23 hi hz0 hz1 hz2 rfl rfl hA2 rfl (at_new rfl) ⟨_, rfl, hu2⟩ (by simp [maxLen]; omega) (by omega) (by simp at *; omega) ?_; intro v1 w3 hA3' hg3 hat3)
        have hb3 : Bw (w.alloc (.cells #[a, b, c] 47)) w3 := Acc.bw ((((hbw.drewN n3).then hb).then hb2).then ((Below.refl _ _).alloc (Nat.le_refl _) _)) hg3 (fun g e => (hA2.own g e).1) (Nat.le_of_eq Hsz.out)
        refine ⟨⟨at', f - 1, acc ++ [cut x at' e], by omega, rfl, rfl, by omega, by simp; omega, Hd.out.symm.trans hdv.out, hb3, hA3'⟩, by simp [intOf]; omega⟩
end Go.Proofs.Ytockfkmemoggiaa

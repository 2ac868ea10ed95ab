/- The walk of the statement GuessOrder. -/
import Derived.Test.YtonadloonidmjaaDoorGB
namespace Go.Proofs.YtonadloonidmjaaDoor
open Go.RowKit
open Pl

theorem infoK : (Tryd.prog.info? 27).map (fun i => (i.zero, i.size, i.bytes)) = some (some (.agg #[.slice none 0 0, .string ⟨#[]⟩]), 2, 40) := by kernel_rfl
theorem large_len {l : List Kn} (h : largeB l = false) : l.length ≤ 60 := by
  unfold largeB at h
  rw [Bool.or_eq_false_iff] at h
  have := h.1
  simp at this
  omega
theorem rotL_snoc {l : List Kn} {c k : Nat} {y : Kn} (hk : k < l.length) (h : l[rotI l.length c k]? = some y) : (rotL l c).take (k + 1) = (rotL l c).take k ++ [y] := by
  have hl : (rotL l c).length = l.length := by unfold rotL; simp
  have e : (rotL l c)[k]? = some y := by
    unfold rotL
    rw [List.getElem?_map, List.getElem?_range hk]
    show some (l.getD (rotI l.length c k) _) = _
    rw [getD_of h]
  rw [List.take_add_one, e]; rfl
set_option maxRecDepth 100000 in
set_option maxHeartbeats 8000000 in
theorem order_walk {v : Value} {l : List Kn} {most q : Int} {w : World} (hT : Tb w) (h : Rd tKn w v l) :
    Calls Tryd.prog 3 #[v, .int .i64 most, .int .i64 q] w fun e w' => e = .returned (.bool true) ∧ Bw w w' := by
  obtain ⟨i0, hi, hz0, hz1, hz2⟩ := info_parts infoK
  obtain ⟨A, N, c, rfl, _, _, hN⟩ := h.form'
  cases hL : largeB l
  case true =>
    go_enter Tryd.func3, Tryd.ntmps3
    go_wp2_with (first | (go_at_call 8; (with_reducible refine (val_of (congrArg Value.bool hL) (large_any h)).mono ?_); rintro e w1 ⟨rfl, n, rfl⟩) | (go_at_call 9; (with_reducible refine (awake_any (hT.after (Dr.n w n).bw)).mono ?_); rintro e w2 ⟨rfl, hb2⟩))
    go_ret
    exact ⟨rfl, (Dr.n w n).bw.then hb2⟩
  have h60 : N ≤ 60 := by have := large_len hL; have := hN.out; omega
  by_cases h0 : N = 0
  · subst h0
    go_enter Tryd.func3, Tryd.ntmps3
    go_wp2_with (first | (go_at_call 8; (with_reducible refine (val_of (congrArg Value.bool hL) (large_any h)).mono ?_); rintro e w1 ⟨rfl, n, rfl⟩) | (go_at_call 9; (with_reducible refine (awake_any (hT.after (Dr.n w n).bw)).mono ?_); rintro e w2 ⟨rfl, hb2⟩))
    go_ret
    exact ⟨rfl, (Dr.n w n).bw.then hb2⟩
  have h0e : ((N : Int) == 0) = false := by rw [beq_eq_false_iff_ne]; omega
  obtain ⟨d, hd⟩ : ∃ d, q.tmod (N : Int) = d := ⟨_, rfl⟩
  have hd1 : d < (N : Int) := by rw [← hd]; exact Int.tmod_lt_of_pos q (by omega)
  have hd2 : -(N : Int) < d := by rw [← hd]; have := Int.lt_tmod_of_pos q (b := (N : Int)) (by omega); exact this
  obtain ⟨C, hC⟩ : ∃ C : Nat, (C : Int) = d + N := ⟨(d + N).toNat, by omega⟩
  have hdw : IntKind.i64.wrap d = d := by simp [IntKind.wrap, IntKind.bits, IntKind.signed]; omega
  have hC' : d + (N : Int) = (C : Int) := hC.symm
  have hCw : IntKind.i64.wrap (C : Int) = (C : Int) := by simp [IntKind.wrap, IntKind.bits, IntKind.signed]; omega
  have hCb : C < 2 * N := by omega
  clear hC
  go_enter Tryd.func3, Tryd.ntmps3
  go_wp2_with (first | (go_at_call 8; (with_reducible refine (val_of (congrArg Value.bool hL) (large_any h)).mono ?_); rintro e w1 ⟨rfl, n, rfl⟩))
  clear hL
  go_loopw [7, 8] (fun t i wr => ∃ k : Nat, k ≤ N ∧ i = .int .i64 k ∧ Bw w wr ∧ (∀ g, t.ownBlock = some g → w.heap.size ≤ g) ∧ Acc tKn 27 wr 0 t ((rotL l C).take k)) (fun _ i _ => N - (intOf i).toNat)
  case atStart => exact ⟨0, Nat.zero_le _, rfl, (Dr.n w n).bw, fun g e => (by cases e), Acc.nil _ _⟩
  case round =>
    obtain ⟨k, hk, rfl, hdr, hown, hA⟩ := hrel
    by_cases hlt : k < N
    · obtain ⟨r, hr⟩ : ∃ r, r = rotI N C k := ⟨_, rfl⟩
      have hrN : r < N := by rw [hr]; exact rotI_lt hlt
      obtain ⟨S, hS⟩ : ∃ S : Nat, S = N - 1 - k + C := ⟨_, rfl⟩
      have hrem : (S : Int).tmod (N : Int) = (r : Int) := by rw [hr, hS]; unfold rotI; exact (Int.ofNat_tmod _ _).symm
      obtain ⟨T1, hT1⟩ : ∃ T1 : Nat, (N : Int) - 1 = (T1 : Int) := ⟨N - 1, by omega⟩
      obtain ⟨T2, hT2⟩ : ∃ T2 : Nat, (T1 : Int) - k = (T2 : Int) := ⟨N - 1 - k, by omega⟩
      have hT3 : (T2 : Int) + (C : Int) = (S : Int) := by omega
      have hr' := Lib.hid hr
      clear hr
      clear hS
      obtain ⟨bb, off, y, u1, rfl, hy, hys, hu, e0, e1⟩ := h.kn (k := r) (by have := hN.out; omega)
      have e0 := bw_cell hdr e0
      have e1 := bw_cell hdr e1
      obtain ⟨A1, n1, c1, rfl, _, _, _⟩ := hu.form'
      have hA2 : Acc tKn 27 (wr.alloc (.cells #[.slice A1 n1 c1, .string y.2] 27)) 0 u7 ((rotL l C).take k) := hA.alloc _
      have hbA : Bw w (wr.alloc (.cells #[.slice A1 n1 c1, .string y.2] 27)) := bw_al hdr _
      have hrl : ((rotL l C).take k).length = k := by rw [List.length_take]; unfold rotL; simp; have := hN.out; omega
      have hrep : tKn.rep (wr.alloc (.cells #[.slice A1 n1 c1, .string y.2] 27)) (fun b => 0 ≤ b ∧ some b ≠ u7.ownBlock) [.slice A1 n1 c1, .string y.2] y :=
        kn_mk (hu.keep fun b hb => ⟨⟨Nat.zero_le _, fun e => by have := hown b e.symm; omega⟩, (bw_al hdr _).block b hb⟩) (by simpa [maxLen] using hys)
      have hsn : Hid ((rotL l C).take (k + 1) = (rotL l C).take k ++ [y]) := rotL_snoc (by have := hN.out; omega) (by rw [← hN.out, ← hr'.out]; exact hy.out)
      clear hA hu
      go_wp2_with (at_builtin; refine wpList_app_one (T := tKn) rfl _ _ rfl Tryd.underlying22 hi hz0 hz1 hz2 rfl rfl hA2 rfl (at_new rfl) hrep (by rw [hrl]; simp [maxLen]; omega) (by rw [hrl]; omega) (Nat.zero_le _) ?_; intro v7 w7 hA7 hg7 hat7)
      have hb7 : Bw w w7 := Acc.bw hbA hg7 hown (Nat.le_refl _)
      rw [← hsn.out] at hA7
      have hsz := hbA.size
      exact ⟨⟨k + 1, hlt, by go_num, hb7, fun g e => by
        rcases hat7 with e7 | e7
        · exact hown g (e7.symm.trans e)
        · have e8 := e7.symm.trans e
          injection e8 with e8
          omega, hA7⟩, by simp [intOf]; omega⟩
    · have hkN : k = N := by omega
      subst hkN
      have hall : (rotL l C).take k = rotL l C := List.take_of_length_le (by unfold rotL; simp; have := hN.out; omega)
      rw [hall] at hA
      have hR : Rd tKn wr u7 (rotL l C) := hA.sl.rd
      have hPm : LearnR (rotL l C) most = LearnR l most := by unfold LearnR; rw [← learnP_perm (rotL_perm l C) most]
      have hL1 := Lib.hid (learn_any (most := most) (hT.after hdr) (h.after hdr))
      have hL2 : Hid (∀ W : World, Bw wr W → Calls Tryd.prog 10 #[u7, .int .i64 most] W (LearnR l most W)) := fun W kk => by
        have h1 := learn_any (most := most) (hT.after (hdr.then kk)) (hR.after kk)
        rwa [hPm] at h1
      have HA := Lib.hid (fun (W : World) (kk : Bw wr W) => awake_any (hT.after (hdr.then kk)))
      unfold LearnR at hL1 hL2
      generalize learnP l most = p at *
      obtain ⟨G, E⟩ := p
      have hE : (E == E) = true := beq_self_eq_true E
      have hsame : same G G = true := by unfold same; exact decide_eq_true rfl
      clear hA hall hR hown hPm h hT
      go_wp2_with fail
      with_reducible refine hL1.out.mono ?_
      rintro e w8 ⟨v8, rfl, hb8, hv8⟩
      have Hv8 := Lib.hid hv8
      clear hL1 hv8
      go_wp2_with fail
      with_reducible refine (hL2.out _ hb8).mono ?_
      rintro e w9 ⟨v9, rfl, hb9, hv9⟩
      have HS := Lib.hid (val_of (congrArg Value.bool hsame) (sameE_any (bw_hi Hv8.out hb9) hv9.rd))
      clear hL2 hv9 Hv8 hsame
      go_wp2_with (first | (go_at_call 11; (with_reducible refine HS.out.mono ?_); rintro e wA ⟨rfl, hdA⟩; have hbA := hdA.bw) | (go_at_call 9; (with_reducible refine (HA.out _ ((hb8.then hb9).then hbA)).mono ?_); rintro e wB ⟨rfl, hbB⟩))
      go_ret
      exact ⟨rfl, hdr.then (((hb8.then hb9).then hbA).then hbB)⟩
end Go.Proofs.YtonadloonidmjaaDoor

/- The cohorts that a test visits, in their order: the contract of the function that yields them. Conditions: what its captured variables hold; a loop body that keeps what lay. -/
import Derived.RangeFuncNested
import Derived.RangeFuncBound
import Derived.RangeFuncCalls
import Derived.RangeFuncLeaves
import Derived.Shelf.Abstract
import Derived.Shelf.RegionOpen
import Derived.WalkKit
import Derived.OwnWalkIn
import Derived.TacticsInMore
import Derived.LoopNIn
import Derived.LoopIn
import Derived.Test.YthecmbmidoagaaaDoorC1
import Derived.Test.YthecmbmidoagaaaDoorProg
namespace Go.Proofs.YthecmbmidoagaaaDoor
open Go.RowKit Go.Shelf
open Pl

attribute [local go_sem] Oper.semAt_some

namespace Pl
def visF (n : Nat) (d : Int) : Nat → Int → List Nat
  | 0, _ => []
  | f + 1, k => if 0 ≤ k ∧ k < n then k.toNat :: visF n d f (k + d) else []
/-- The places that a test looks at. -/
def visL (t : Tst) (n : Nat) (i : Int) : List Nat := visF n (stepD t) (if t.scan then n + 1 else 1) (i + t.at')
/-- What the first of them says that says anything. -/
def firstB (t : Tst) (l : List Coh) : List Nat → Bool
  | [] => false
  | k :: ks => match l[k]? with
    | none => false
    | some c => if matB t c then true else if barB t c then false else firstB t l ks
theorem atI_in {α : Type} {l : List α} {k : Int} (h : 0 ≤ k ∧ k < l.length) : atI l k = l[k.toNat]? := by unfold atI; rw [if_pos h.1]
theorem atI_out {α : Type} {l : List α} {k : Int} (h : ¬ (0 ≤ k ∧ k < l.length)) : atI l k = none := by
  unfold atI
  split
  · rw [List.getElem?_eq_none]; omega
  · rfl
theorem first_scan (t : Tst) (l : List Coh) (d : Int) : ∀ f k, scanF t l d f k = firstB t l (visF l.length d f k)
  | 0, _ => rfl
  | f + 1, k => by
    unfold scanF visF
    by_cases h : 0 ≤ k ∧ k < l.length
    · rw [if_pos h, atI_in h]
      unfold firstB
      rw [first_scan t l d f]
      rfl
    · rw [if_neg h, atI_out h]; rfl
theorem first_cond (t : Tst) (l : List Coh) (i : Int) : condB t l i = firstB t l (visL t l.length i) := by
  unfold condB visL
  cases t.scan
  · rw [if_neg (by simp), if_neg (by simp)]
    unfold visF
    by_cases h : 0 ≤ i + t.at' ∧ i + t.at' < l.length
    · rw [if_pos h, atI_in h]
      obtain ⟨c, hc⟩ : ∃ c, l[(i + t.at').toNat]? = some c := ⟨_, List.getElem?_eq_getElem (by omega)⟩
      unfold visF firstB firstB
      rw [hc]
      simp only
      cases matB t c <;> cases barB t c <;> rfl
    · rw [if_neg h, atI_out h]; rfl
  · rw [if_pos rfl, if_pos rfl, first_scan]
theorem first_skip {t : Tst} {l : List Coh} {ks : List Nat} : ∀ {pre : List Nat}, (∀ k ∈ pre, ∃ c, l[k]? = some c ∧ matB t c = false ∧ barB t c = false) → firstB t l (pre ++ ks) = firstB t l ks
  | [], _ => rfl
  | k :: pre, h => by
    obtain ⟨c, h1, h2, h3⟩ := h k (by simp)
    rw [List.cons_append, show firstB t l (k :: (pre ++ ks)) = firstB t l (pre ++ ks) by
      conv => lhs; unfold firstB
      rw [h1]
      simp only
      rw [h2, h3]; rfl]
    exact first_skip (pre := pre) fun k' hk' => h k' (List.mem_cons_of_mem _ hk')
/-- How many steps are left. -/
def fuV (n : Nat) (d k : Int) : Nat := if d = 1 then ((n : Int) - k).toNat else (k + 1).toNat
end Pl

abbrev Ix' (m : Nat) := { k : Nat // k < m }

set_option maxRecDepth 100000 in
set_option maxHeartbeats 4000000 in
theorem vis1_in (F : Fence) (n : Nat) (hF : F.fn 76) (hro : F.round = none) (hn : 1 ≤ n) (lo Bt Bi Bl n₀ : Nat) (t : Tst) (m cap : Nat) (i : Int) (A : Option Addr) (el : Nat → ByteArray × Value)
    (hm : m ≤ 9223372036854775000) (hi : 0 ≤ i ∧ i < m) (ha : -99 ≤ t.at' ∧ t.at' ≤ 99) (J Jx : List (Ix' m) → World → Prop)
    (hY : ∀ pre x W, J pre W → pre.length < m + 1 → YieldAt F (n - 1) Tryd.prog lo #[.agg #[.string (el x.1).1, (el x.1).2]] W fun e W' =>
      (e = .returned (.bool true) ∧ J (pre ++ [x]) W' ∧ Below n₀ W W') ∨ (e = .returned (.bool false) ∧ Jx (pre ++ [x]) W'))
    (W : World) (hbt : Bt < n₀) (hbl : Bl < n₀) (h0 : W.cell? ⟨Bt, 0, none⟩ = some (.int .i64 t.at')) (h1 : W.cell? ⟨Bt, 1, none⟩ = some (.bool t.scan)) (h2 : W.cell? ⟨Bi, 0, none⟩ = some (.int .i64 i))
    (h3 : W.cell? ⟨Bl, 0, none⟩ = some (.slice A m cap)) (hel : ∀ k, k < m → ∃ b off, A = some ⟨b, off, none⟩ ∧ b < n₀ ∧ W.cell? ⟨b, off + k * 2, none⟩ = some (.string (el k).1) ∧ W.cell? ⟨b, off + k * 2 + 1, none⟩ = some (el k).2) (hJ0 : J [] W) :
    CallsIn F n Tryd.prog 76 #[.func (.yield lo) #[] #[], .pointer (some ⟨Bt, 0, none⟩), .pointer (some ⟨Bi, 0, none⟩), .pointer (some ⟨Bl, 0, none⟩)] W fun e W' => (∃ v, e = .returned v) ∧
      ((∃ ys : List (Ix' m), ys.map (·.1) = visL t m i ∧ J ys W') ∨ (∃ pre : List (Ix' m), (∃ r, pre.map (·.1) ++ r = visL t m i) ∧ Jx pre W')) := by
  obtain ⟨at', scan, neg, care, tags, bar⟩ := t
  simp only at *
  have HV : Hid (∃ d f0, visL ⟨at', scan, neg, care, tags, bar⟩ m i = visF m d f0 (i + at') ∧ d = (if at' < 0 then -1 else 1) ∧ 0 < f0 ∧ (scan = true → f0 = m + 1) ∧ (scan = false → f0 = 1)) := ⟨_, _, rfl, rfl, by split <;> omega, fun h => by simp only [h]; rfl, fun h => by simp only [h]; rfl⟩
  generalize visL ⟨at', scan, neg, care, tags, bar⟩ m i = L at *
  obtain ⟨d, f0, hL, hd, hf0, hf1, hf2⟩ := HV.out
  have HL := Lib.hid hL
  have HF1 := Lib.hid hf1
  have HF2 := Lib.hid hf2
  clear HV hL hf1 hf2
  have hw0 : (-9223372036854775808 : Int) ≤ i + at' ∧ i + at' ≤ 9223372036854775807 := by omega
  refine callsIn_of_wp Tryd.func76 rfl hF ?_ hro
  simp only [Tryd.ntmps76, List.size_toArray, List.length_cons, List.length_nil, Nat.reduceAdd, Nat.reduceSub, Array.replicate_succ, Array.replicate_zero, List.push_toArray, List.append_toArray, List.nil_append, List.cons_append]
  have hor : (at' < 0 ∧ d = -1) ∨ (¬ at' < 0 ∧ d = 1) := by
    by_cases e : at' < 0
    · exact .inl ⟨e, by rw [hd, if_pos e]⟩
    · exact .inr ⟨e, by rw [hd, if_neg e]⟩
  rcases hor with ⟨hneg, hd1⟩ | ⟨hneg, hd1⟩
  · subst hd1
    clear hd
    gi_wp2
    gi_loopw [6] (fun kk wr => ∃ (pre : List (Ix' m)) (k : Int) (f : Nat), kk = .int .i64 k ∧ (-9223372036854775808 ≤ k ∧ k ≤ 9223372036854775807) ∧ Hid (pre.map (·.1) ++ visF m (-1) f k = L) ∧ ((0 ≤ k ∧ k < m) → 0 < f ∧ (scan = true → fuV m (-1) k ≤ f) ∧ (scan = false → f = 1)) ∧ pre.length ≤ m ∧ (0 ≤ k ∧ k < m → pre.length + fuV m (-1) k ≤ m) ∧ J pre wr ∧ Below n₀ W wr) (fun kk _ => fuV m (-1) (intOf kk))
    case atStart => exact ⟨[], _, f0, rfl, hw0, HL.out.symm, fun h => ⟨hf0, fun hs => by rw [HF1.out hs]; unfold fuV; simp; omega, HF2.out⟩, Nat.zero_le _, fun h => by unfold fuV; simp; omega, hJ0, Below.refl _ _⟩
    case round =>
      obtain ⟨pre, k, f, rfl, hkb, HP, hfu, hpl, hpm, hJ, hB⟩ := hrel
      have c0 := (hB.cell (p := ⟨Bt, 0, none⟩) hbt).trans h0
      have c1 := (hB.cell (p := ⟨Bt, 1, none⟩) hbt).trans h1
      have c3 := (hB.cell (p := ⟨Bl, 0, none⟩) hbl).trans h3
      clear h0 h1 h2 h3
      by_cases hin : 0 ≤ k ∧ k < m
      · obtain ⟨b, off, rfl, hb, he0, he1⟩ := hel k.toNat (by omega)
        have d0 := (hB.cell (p := ⟨b, off + k.toNat * 2, none⟩) hb).trans he0
        have d1 := (hB.cell (p := ⟨b, off + k.toNat * 2 + 1, none⟩) hb).trans he1
        obtain ⟨fn, tmps, assign, body, hy, hR⟩ := hY pre ⟨k.toNat, by omega⟩ wr hJ (by omega)
        have hk0 : 0 ≤ k := hin.1
        have hk1 : k < m := hin.2
        obtain ⟨hfp, hfs, hfn⟩ := hfu hin
        obtain ⟨f', rfl⟩ : ∃ f', f = f' + 1 := ⟨f - 1, by omega⟩
        have HP2 : Hid ((pre ++ [(⟨k.toNat, by omega⟩ : Ix' m)]).map (·.1) ++ visF m (-1) f' (k + (-1)) = L) := by
          show _ = _
          rw [← HP.out, List.map_append, List.append_assoc]
          conv => rhs; unfold visF
          rw [if_pos hin]; rfl
        have Hpm := Lib.hid (hpm hin)
        have Hfs := Lib.hid hfs
        have Hfn := Lib.hid hfn
        clear he0 he1 hel hY hfu HL HF1 HF2 hpm hfs hfn
        dsimp only at hy
        gi_wp2
        refine hR.mono ?_
        rintro e W3 (⟨rfl, hJ3, hk3⟩ | ⟨rfl, hJx3⟩)
        · have c1' := (hk3.cell (p := ⟨Bt, 1, none⟩) hbt).trans c1
          cases scan
          · gi_wp2
            refine bodyPost_ret (results_none rfl _ _ _) rfl ?_
            exact ⟨⟨_, rfl⟩, .inl ⟨_, by rw [← HP2.out, show f' = 0 by have := Hfn.out (by trivial); omega]; unfold visF; simp, hJ3⟩⟩
          · gi_wp2
            have hf3 := Hfs.out (by trivial)
            have hpm3 := Hpm.out
            unfold fuV at hf3 hpm3
            simp at hf3 hpm3
            go_roundw
            case rel => exact ⟨_, k + (-1), f', by go_num, by omega, HP2, fun h => ⟨by omega, fun _ => by unfold fuV; simp; omega, fun h => by simp at h⟩, by simp; omega, fun h => by unfold fuV; simp; omega, hJ3, hB.trans hk3⟩
            case measure => simp [intOf, fuV]; try omega
        · gi_wp2
          refine bodyPost_ret (results_none rfl _ _ _) rfl ?_
          exact ⟨⟨_, rfl⟩, .inr ⟨_, ⟨_, HP2.out⟩, hJx3⟩⟩
      · have HE : Hid (pre.map (·.1) = L) := by
          show _ = _
          rw [← HP.out]
          cases f with
          | zero => unfold visF; simp
          | succ f => unfold visF; rw [if_neg hin]; simp
        clear HP HL HF1 HF2 hY hel hfu hpm
        by_cases hk0 : 0 ≤ k
        · have hk1 : ¬ k < m := by omega
          gi_wp2
          go_end0
          exact ⟨⟨_, rfl⟩, .inl ⟨_, HE.out, hJ⟩⟩
        · gi_wp2
          go_end0
          exact ⟨⟨_, rfl⟩, .inl ⟨_, HE.out, hJ⟩⟩
  · subst hd1
    clear hd
    gi_wp2
    gi_loopw [6] (fun kk wr => ∃ (pre : List (Ix' m)) (k : Int) (f : Nat), kk = .int .i64 k ∧ (-9223372036854775808 ≤ k ∧ k ≤ 9223372036854775807) ∧ Hid (pre.map (·.1) ++ visF m (1) f k = L) ∧ ((0 ≤ k ∧ k < m) → 0 < f ∧ (scan = true → fuV m (1) k ≤ f) ∧ (scan = false → f = 1)) ∧ pre.length ≤ m ∧ (0 ≤ k ∧ k < m → pre.length + fuV m (1) k ≤ m) ∧ J pre wr ∧ Below n₀ W wr) (fun kk _ => fuV m (1) (intOf kk))
    case atStart => exact ⟨[], _, f0, rfl, hw0, HL.out.symm, fun h => ⟨hf0, fun hs => by rw [HF1.out hs]; unfold fuV; simp; omega, HF2.out⟩, Nat.zero_le _, fun h => by unfold fuV; simp; omega, hJ0, Below.refl _ _⟩
    case round =>
      obtain ⟨pre, k, f, rfl, hkb, HP, hfu, hpl, hpm, hJ, hB⟩ := hrel
      have c0 := (hB.cell (p := ⟨Bt, 0, none⟩) hbt).trans h0
      have c1 := (hB.cell (p := ⟨Bt, 1, none⟩) hbt).trans h1
      have c3 := (hB.cell (p := ⟨Bl, 0, none⟩) hbl).trans h3
      clear h0 h1 h2 h3
      by_cases hin : 0 ≤ k ∧ k < m
      · obtain ⟨b, off, rfl, hb, he0, he1⟩ := hel k.toNat (by omega)
        have d0 := (hB.cell (p := ⟨b, off + k.toNat * 2, none⟩) hb).trans he0
        have d1 := (hB.cell (p := ⟨b, off + k.toNat * 2 + 1, none⟩) hb).trans he1
        obtain ⟨fn, tmps, assign, body, hy, hR⟩ := hY pre ⟨k.toNat, by omega⟩ wr hJ (by omega)
        have hk0 : 0 ≤ k := hin.1
        have hk1 : k < m := hin.2
        obtain ⟨hfp, hfs, hfn⟩ := hfu hin
        obtain ⟨f', rfl⟩ : ∃ f', f = f' + 1 := ⟨f - 1, by omega⟩
        have HP2 : Hid ((pre ++ [(⟨k.toNat, by omega⟩ : Ix' m)]).map (·.1) ++ visF m (1) f' (k + (1)) = L) := by
          show _ = _
          rw [← HP.out, List.map_append, List.append_assoc]
          conv => rhs; unfold visF
          rw [if_pos hin]; rfl
        have Hpm := Lib.hid (hpm hin)
        have Hfs := Lib.hid hfs
        have Hfn := Lib.hid hfn
        clear he0 he1 hel hY hfu HL HF1 HF2 hpm hfs hfn
        dsimp only at hy
        gi_wp2
        refine hR.mono ?_
        rintro e W3 (⟨rfl, hJ3, hk3⟩ | ⟨rfl, hJx3⟩)
        · have c1' := (hk3.cell (p := ⟨Bt, 1, none⟩) hbt).trans c1
          cases scan
          · gi_wp2
            refine bodyPost_ret (results_none rfl _ _ _) rfl ?_
            exact ⟨⟨_, rfl⟩, .inl ⟨_, by rw [← HP2.out, show f' = 0 by have := Hfn.out (by trivial); omega]; unfold visF; simp, hJ3⟩⟩
          · gi_wp2
            have hf3 := Hfs.out (by trivial)
            have hpm3 := Hpm.out
            unfold fuV at hf3 hpm3
            simp at hf3 hpm3
            go_roundw
            case rel => exact ⟨_, k + (1), f', by go_num, by omega, HP2, fun h => ⟨by omega, fun _ => by unfold fuV; simp; omega, fun h => by simp at h⟩, by simp; omega, fun h => by unfold fuV; simp; omega, hJ3, hB.trans hk3⟩
            case measure => simp [intOf, fuV]; try omega
        · gi_wp2
          refine bodyPost_ret (results_none rfl _ _ _) rfl ?_
          exact ⟨⟨_, rfl⟩, .inr ⟨_, ⟨_, HP2.out⟩, hJx3⟩⟩
      · have HE : Hid (pre.map (·.1) = L) := by
          show _ = _
          rw [← HP.out]
          cases f with
          | zero => unfold visF; simp
          | succ f => unfold visF; rw [if_neg hin]; simp
        clear HP HL HF1 HF2 hY hel hfu hpm
        by_cases hk0 : 0 ≤ k
        · have hk1 : ¬ k < m := by omega
          gi_wp2
          go_end0
          exact ⟨⟨_, rfl⟩, .inl ⟨_, HE.out, hJ⟩⟩
        · gi_wp2
          go_end0
          exact ⟨⟨_, rfl⟩, .inl ⟨_, HE.out, hJ⟩⟩

/-- 'visited': the three arguments are boxed; the function value captures the boxes. -/
theorem vis_in (F : Fence) (n : Nat) (hF : F.fn 69) (hro : F.round = none) (at' : Int) (scan neg care : Bool) (u1 u2 : Value) (A : Option Addr) (m cap : Nat) (i : Int) (w : World) :
    CallsIn F n Tryd.prog 69 #[.agg #[.int .i64 at', .bool scan, .bool neg, .bool care, u1, u2], .slice A m cap, .int .i64 i] w fun e w' =>
      e = .returned (.func (.func 76) #[] #[.pointer (some ⟨w.heap.size, 0, none⟩), .pointer (some ⟨w.heap.size + 2, 0, none⟩), .pointer (some ⟨w.heap.size + 1, 0, none⟩)]) ∧
      w' = ((w.alloc (.cells #[.int .i64 at', .bool scan, .bool neg, .bool care, u1, u2] 28)).alloc (.cells #[.slice A m cap] 29)).alloc (.cells #[.int .i64 i] 3) := by
  refine callsIn_of_wp Tryd.func69 rfl hF ?_ hro
  simp only [Tryd.ntmps69, List.size_toArray, List.length_cons, List.length_nil, Nat.reduceAdd, Nat.reduceSub, Array.replicate_succ, Array.replicate_zero, List.push_toArray, List.append_toArray, List.nil_append, List.cons_append]
  gi_wp2
  go_ret
  exact ⟨rfl, rfl⟩
end Go.Proofs.YthecmbmidoagaaaDoor

/- The contract of the statements' 'within'. Conditions: what the arguments read as; that the first's readings are some of the second's, in their order. -/
import Derived.Test.YthecmbmidoagaaaDoorCC
import Derived.Test.YthecmbmidoagaaaDoorSpec3
namespace Go.Proofs.YthecmbmidoagaaaDoor
open Go.RowKit Go.Maps
open Pl

/-- One reading, cut out of a list of readings. -/
theorem rd_at {w : World} {b off c k : Nat} {x : Rdg} {xs : List Rdg} (h : Rd tRdg w (.slice (some ⟨b, off, none⟩) xs.length c) xs) (hx : xs[k]? = some x) : Rd tRdg w (.slice (some ⟨b, off + k, none⟩) 1 (c - k)) [x] := by
  obtain ⟨hk, rfl⟩ := List.getElem?_eq_some_iff.1 hx
  have hc : xs.length ≤ c := by
    obtain ⟨A', c', e, h2, _⟩ := h.form
    injection e with _ _ e; omega
  have h2 := h.cut (l := k) (n := k + 1) (m := 1) (by omega) (by omega) (by omega)
  rw [if_neg (by omega)] at h2
  have ea : (⟨b, off, none⟩ : Addr).add (k * tRdg.size) = ⟨b, off + k, none⟩ := by
    unfold Addr.add; rw [size_rdg, Nat.mul_one]
    split
    · rename_i h0; rw [h0]; rfl
    · rfl
  simp only [Option.map_some, ea] at h2
  have e : (xs.take (k + 1)).drop k = [xs[k]] := by
    rw [List.drop_take, show k + 1 - k = 1 by omega, List.drop_eq_getElem_cons hk]
    rfl
  rwa [e] at h2
theorem cut_at {b off n c k : Nat} (hk : k < n) (hc : n ≤ c) (W : World) :
    (Instr.slice 35 (.slice (some ⟨b, off, none⟩) n c) (some (.int .i64 (k : Int))) (some (.int .i64 ((k : Int) + 1))) none).run Tryd.prog W = .ok (.slice (some ⟨b, off + k, none⟩) 1 (c - k)) W := by
  obtain ⟨i, hi, _, hi3, _⟩ := info_parts infoR
  have := run_cut_lh Tryd.underlying35 hi b off n c (l := (k : Int)) (h := (k : Int) + 1) (l' := k) (h' := k + 1) rfl (by omega) (by omega) (by omega) (by omega) W
  rwa [hi3, Nat.mul_one, show k + 1 - k = 1 by omega] at this

set_option maxRecDepth 100000 in
set_option maxHeartbeats 8000000 in
theorem within_any {f1 f2 : ByteArray} {u1 u2 : Value} {r1 r2 : List Rdg} {w : World} (h1 : Rd tRdg w u1 r1) (h2 : Rd tRdg w u2 r2) (hs : r1.Sublist r2) :
    Calls Tryd.prog 26 #[.agg #[.string f1, u1], .agg #[.string f2, u2]] w fun e w' => e = .returned (.bool true) ∧ Bw w w' := by
  have hm1 := h1.len_le
  have hm2 := h2.len_le
  obtain ⟨A1, c1, rfl, hc1, hc1m⟩ := h1.form
  obtain ⟨A2, c2, rfl, hc2, hc2m⟩ := h2.form
  have hb2 := bw_al (bw_refl_al w (.cells #[.string f1, .slice A1 r1.length c1] 37)) (.cells #[.string f2, .slice A2 r2.length c2] 37)
  go_enter Tryd.func26, Tryd.ntmps26
  go_wp2_with fail
  go_loopw [5, 6] (fun k i wr => ∃ a b : Nat, a ≤ r1.length ∧ b ≤ r2.length ∧ i = .int .i64 a ∧ k = .int .i64 b ∧ Bw ((w.alloc (.cells #[.string f1, .slice A1 r1.length c1] 37)).alloc (.cells #[.string f2, .slice A2 r2.length c2] 37)) wr ∧ Hid (wit (r1.drop a) (r2.drop b) = true)) (fun _ i _ => r1.length - (intOf i).toNat)
  case atStart => exact ⟨0, 0, Nat.zero_le _, Nat.zero_le _, rfl, rfl, Below.refl _ _, Lib.hid (by simpa using wit_of hs)⟩
  case round =>
    obtain ⟨a, b, ha, hb, rfl, rfl, hbw, hwit⟩ := hrel
    have hbw0 := hb2.then hbw
    have k1 : wr.cell? ⟨w.heap.size, 1, none⟩ = some (.slice A1 r1.length c1) := bw_cell hbw (by go_simp)
    have k2 : wr.cell? ⟨w.heap.size + 1, 1, none⟩ = some (.slice A2 r2.length c2) := bw_cell hbw (by go_simp)
    by_cases hlt : a < r1.length
    · obtain ⟨bx, ox, x, ux, rfl, hx, _, _⟩ := lookR (h1.after hbw0) hlt
      have hsl := fun W => cut_at (b := bx) (off := ox) hlt hc1 W
      have HX := Lib.hid (fun (W : World) (kk : Bw wr W) => rd_at ((h1.after hbw0).after kk) hx.out)
      go_wp2_with fail
      rename World => wo
      go_loopw [5] (fun k wr => ∃ b : Nat, b ≤ r2.length ∧ k = .int .i64 b ∧ Bw (wo.alloc (.cells #[.string ⟨#[]⟩, .slice (some ⟨bx, ox + a, none⟩) 1 (c1 - a)] 37)) wr ∧ Hid (wit (r1.drop a) (r2.drop b) = true)) (fun k _ => r2.length - (intOf k).toNat)
      case atStart => exact ⟨b, hb, rfl, Below.refl _ _, hwit⟩
      case round =>
        obtain ⟨b, hb, rfl, hbi, hwit⟩ := hrel
        have hbo := hbw0.then ((bw_refl_al wo _).then hbi)
        have hkk : Bw wo wr := (bw_refl_al wo _).then hbi
        have k2' : wr.cell? ⟨w.heap.size + 1, 1, none⟩ = some (.slice A2 r2.length c2) := bw_cell hkk k2
        have k3 : wr.cell? ⟨wo.heap.size, 0, none⟩ = some (.string ⟨#[]⟩) := bw_cell hbi (by go_simp)
        have k4 : wr.cell? ⟨wo.heap.size, 1, none⟩ = some (.slice (some ⟨bx, ox + a, none⟩) 1 (c1 - a)) := bw_cell hbi (by go_simp)
        by_cases hlt2 : b < r2.length
        · obtain ⟨by', oy, y, uy, rfl, hy, _, _⟩ := lookR (h2.after hbo) hlt2
          have hsl2 := fun W => cut_at (b := by') (off := oy) hlt2 hc2 W
          have HY := Lib.hid (fun (W : World) (kk : Bw wr W) => samec_any (f1 := ⟨#[]⟩) (f2 := ⟨#[]⟩) (HX.out W (hkk.then kk)) (rd_at ((h2.after hbo).after kk) hy.out))
          have K : ∀ w', Bw wr w' → w'.cell? ⟨wo.heap.size, 0, none⟩ = some (.string ⟨#[]⟩) ∧ w'.cell? ⟨wo.heap.size, 1, none⟩ = some (.slice (some ⟨bx, ox + a, none⟩) 1 (c1 - a)) ∧ w'.cell? ⟨w.heap.size + 1, 1, none⟩ = some (.slice (some ⟨by', oy, none⟩) r2.length c2) := fun w' kk => ⟨bw_cell kk k3, bw_cell kk k4, bw_cell kk k2'⟩
          have hwr : IntKind.i64.wrap ((b : Int) + 1) = (b : Int) + 1 := IntWalk.i64_in _ (by omega)
          have hne : ((b : Int) == (r2.length : Int)) = false := by simpa using (by omega : ¬ (b : Int) = r2.length)
          by_cases hxy : x = y
          · have hq : eqC (⟨#[]⟩, [x]) (⟨#[]⟩, [y]) = true := by unfold eqC; rw [hxy]; simp
            rw [hq] at HY
            have Hn : Hid (wit (r1.drop (a + 1)) (r2.drop (b + 1)) = true) := (wit_hit hx.out hy.out hxy).symm.trans hwit.out
            clear hxy hq
            go_wp2_with fail
            go_region_held3 (fun w' => w'.cell? ⟨wo.heap.size, 0, none⟩ = some (.string ⟨#[]⟩) ∧ w'.cell? ⟨wo.heap.size, 1, none⟩ = some (.slice (some ⟨bx, ox + a, none⟩) 1 (c1 - a)) ∧ w'.cell? ⟨w.heap.size + 1, 1, none⟩ = some (.slice (some ⟨by', oy, none⟩) r2.length c2)) (exact K _ (by (repeat' first | with_reducible exact Below.refl _ _ | with_reducible assumption | with_reducible refine Bw.drew ?_ | with_reducible refine Bw.drewN ?_ _ | with_reducible refine bw_al ?_ _ | with_reducible refine Bw.then ?_ (by with_reducible assumption))))
              ((go_at_call 20; (with_reducible refine (HY.out _ (by (repeat' first | with_reducible exact Below.refl _ _ | with_reducible assumption | with_reducible refine Bw.drew ?_ | with_reducible refine Bw.drewN ?_ _ | with_reducible refine bw_al ?_ _ | with_reducible refine Bw.then ?_ (by with_reducible assumption)))).mono ?_); rintro e wA ⟨rfl, hbA⟩))
            go_wp2_with fail
            have hbN : Bw wr wA := (by (repeat' first | with_reducible exact Below.refl _ _ | with_reducible assumption | with_reducible refine Bw.drew ?_ | with_reducible refine Bw.drewN ?_ _ | with_reducible refine bw_al ?_ _ | with_reducible refine Bw.then ?_ (by with_reducible assumption)))
            exact ⟨⟨a + 1, b + 1, hlt, hlt2, by go_num, by go_num, hbw.then (hkk.then hbN), Hn⟩, by simp [intOf]; omega⟩
          · have hq : eqC (⟨#[]⟩, [x]) (⟨#[]⟩, [y]) = false := by unfold eqC; simpa using hxy
            rw [hq] at HY
            have Hn : Hid (wit (r1.drop a) (r2.drop (b + 1)) = true) := (wit_miss hx.out hy.out hxy).symm.trans hwit.out
            clear hxy hq
            go_wp2_with fail
            go_region_held3 (fun w' => w'.cell? ⟨wo.heap.size, 0, none⟩ = some (.string ⟨#[]⟩) ∧ w'.cell? ⟨wo.heap.size, 1, none⟩ = some (.slice (some ⟨bx, ox + a, none⟩) 1 (c1 - a)) ∧ w'.cell? ⟨w.heap.size + 1, 1, none⟩ = some (.slice (some ⟨by', oy, none⟩) r2.length c2)) (exact K _ (by (repeat' first | with_reducible exact Below.refl _ _ | with_reducible assumption | with_reducible refine Bw.drew ?_ | with_reducible refine Bw.drewN ?_ _ | with_reducible refine bw_al ?_ _ | with_reducible refine Bw.then ?_ (by with_reducible assumption))))
              ((go_at_call 20; (with_reducible refine (HY.out _ (by (repeat' first | with_reducible exact Below.refl _ _ | with_reducible assumption | with_reducible refine Bw.drew ?_ | with_reducible refine Bw.drewN ?_ _ | with_reducible refine bw_al ?_ _ | with_reducible refine Bw.then ?_ (by with_reducible assumption)))).mono ?_); rintro e wA ⟨rfl, hbA⟩))
            go_wp2_with fail
            have hbN : Bw wr wA := (by (repeat' first | with_reducible exact Below.refl _ _ | with_reducible assumption | with_reducible refine Bw.drew ?_ | with_reducible refine Bw.drewN ?_ _ | with_reducible refine bw_al ?_ _ | with_reducible refine Bw.then ?_ (by with_reducible assumption)))
            exact ⟨⟨b + 1, hlt2, by go_num, hbi.then hbN, Hn⟩, by simp [intOf]; omega⟩
        · exfalso
          have := hwit.out
          rw [wit_no hx.out (by omega)] at this
          cases this
    · go_wp2_with fail
      go_ret
      exact ⟨rfl, hbw0⟩
end Go.Proofs.YthecmbmidoagaaaDoor

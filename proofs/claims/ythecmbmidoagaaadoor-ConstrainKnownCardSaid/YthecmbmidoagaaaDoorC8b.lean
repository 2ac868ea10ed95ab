/- The contract of slices.DeleteFunc at readings, in the call's own row. Conditions: the closure changes nothing that was there; bounds on lengths. -/
import Derived.Test.YthecmbmidoagaaaDoorC8
import Derived.Laws.IdiomCopy
namespace Go.Proofs.YthecmbmidoagaaaDoor
open Go.RowKit Go.Maps
open Pl

/-- What a closure does at every reading of the list, in every later world in which one row may have turned. -/
def AsksG (r : Option Nat) (K : FuncId) (caps : Array Value) (w : World) (l : List Rdg) (p : Rdg → Bool) : Prop :=
  (∀ (args : Array Value) (W : World), (callFunc K args).run Tryd.prog W = .ok (.enter K args) W) ∧
  ∀ (x : Rdg) (u : Value) (wr : World), x ∈ l → w.grownBy wr r → Rd tStr wr u x → Calls Tryd.prog K (#[.agg #[u]] ++ caps) wr fun e w' => e = .returned (.bool (p x)) ∧ Bw wr w'
theorem grown_bw {w w' : World} (h : Bw w w') (r : Option Nat) : w.grownBy w' r := ⟨h.os, h.tape, h.output, h.size, fun k hk _ => h.block k hk⟩
theorem AsksG.asks {r : Option Nat} {K : FuncId} {caps : Array Value} {w : World} {l : List Rdg} {p : Rdg → Bool} (h : AsksG r K caps w l p) : Asks tRdg vAgg K caps w l p :=
  ⟨h.1, fun x cs wr hx hb hr => by
    obtain ⟨u, rfl, hu⟩ := rep_rdg hr
    exact h.2 x u wr hx (grown_bw hb r) hu.rd⟩

section
variable {P : Program}
theorem run_clear_agg (w : World) (t e ty : TypeId) (z c1 : Value) (ht : P.underlying t = some (.slice e)) (hv : ∀ w, (zeroValue e).run P w = .ok z w) (hz : z.cells = #[c1]) (h1 : c1.oneCell' = true) (b o n c : Nat) (hn : 0 < n)
    (hc : ∀ j, j < n → (w.cell? ⟨b, o + j, none⟩).isSome = true) (hf : ∀ j, j < n → w.frozen? ⟨b, o + j, none⟩ = false) :
    (Builtin.clear_ #[t] ty #[.slice (some ⟨b, o, none⟩) n c]).run P w = .ok (.tuple #[]) (w.setCells b o (List.replicate n c1)) := by
  have hzc : (Builtin.zeroCells z.cells n).toList = List.replicate n c1 := by
    rw [hz]
    simp [Builtin.zeroCells]
    apply List.ext_getElem
    · simp
    · intro i h1 h2
      simp [Nat.mod_one]
  have hst := run_storeCells_cells (P := P) b o (List.replicate n c1) 0 w (by simpa using hc) (by simpa using hf) (by intro v hv'; rw [List.eq_of_mem_replicate hv']; exact h1)
  simp only [Nat.add_zero] at hst
  obtain ⟨m, rfl⟩ : ∃ m, n = m + 1 := ⟨n - 1, by omega⟩
  simp [Builtin.clear_, run_underlying ht, hv, hzc, hst]
end

theorem setCells_row (g : Nat) (e : TypeId) : ∀ (vs : List Value) (o : Nat) (w : World) (cur : Array Value), w.heap[g]? = some (.cells cur e (0, 0)) →
    ∃ cur', (w.setCells g o vs).heap[g]? = some (.cells cur' e (0, 0)) ∧ cur'.size = cur.size ∧ cur'.toList.take o = cur.toList.take o
  | [], _, w, cur, h => ⟨cur, h, rfl, rfl⟩
  | v :: vs, o, w, cur, h => by
    have h1 := heap_setCell_same w g o cur e v h
    obtain ⟨cur', h2, h3, h4⟩ := setCells_row g e vs (o + 1) _ _ h1
    refine ⟨cur', h2, by rw [h3]; simp, ?_⟩
    have h5 := congrArg (List.take o) h4
    rw [List.take_take, List.take_take, Nat.min_eq_left (Nat.le_succ o)] at h5
    rw [h5]
    simp [List.take_set_of_le]
theorem setCells_grown (g : Nat) : ∀ (vs : List Value) (o : Nat) (w : World), w.grownBy (w.setCells g o vs) (some g)
  | [], _, _ => ⟨rfl, rfl, rfl, Nat.le_refl _, fun _ _ _ => rfl⟩
  | v :: vs, o, w => (set_grown w g o v).trans (setCells_grown g vs (o + 1) _)

/-- The values that are kept of the first j. -/
def keptV (p : Rdg → Bool) (zs : List (Rdg × Value)) (j : Nat) : List Value := ((zs.take j).filter fun z => !p z.1).map Prod.snd
theorem keptV_len (p : Rdg → Bool) (zs : List (Rdg × Value)) (j : Nat) : (keptV p zs j).length ≤ j := by
  unfold keptV
  rw [List.length_map]
  exact Nat.le_trans (List.length_filter_le _ _) (by rw [List.length_take]; omega)
theorem keptV_snoc (p : Rdg → Bool) (zs : List (Rdg × Value)) {j : Nat} {x : Rdg} {u : Value} (h : zs[j]? = some (x, u)) : keptV p zs (j + 1) = if p x then keptV p zs j else keptV p zs j ++ [u] := by
  unfold keptV
  rw [List.take_add_one, h, List.filter_append, List.map_append]
  by_cases q : p x = true <;> simp [q]
theorem mid_at {us A : List Value} {j : Nat} (h : A.length ≤ j) : (A ++ us.drop A.length)[j]? = us[j]? := by
  rw [List.getElem?_append_right h, List.getElem?_drop]
  congr 1; omega
theorem mid_set {us A : List Value} {u : Value} (h : A.length < us.length) : (A ++ us.drop A.length).set A.length u = (A ++ [u]) ++ us.drop (A ++ [u]).length := by
  rw [List.set_append_right _ _ (Nat.le_refl _), Nat.sub_self, List.drop_eq_getElem_cons h, List.set_cons_zero, List.length_append, List.append_assoc]; rfl
theorem keptV_pre (p : Rdg → Bool) (zs : List (Rdg × Value)) : ∀ k, (∀ j z, j < k → zs[j]? = some z → p z.1 = false) → keptV p zs k = (zs.map Prod.snd).take k := by
  intro k h
  unfold keptV
  rw [List.filter_eq_self.2, List.map_take]
  intro z hz
  obtain ⟨j, hj⟩ := List.mem_iff_getElem?.1 hz
  rw [List.getElem?_take] at hj
  split at hj
  · rename_i hlt; simp [h j z hlt hj]
  · cases hj

theorem idx_cases {α : Type} (p : α → Bool) : ∀ xs : List α, (∀ x ∈ xs, p x = false) ∨ ∃ (k : Nat) (x : α), xs[k]? = some x ∧ p x = true ∧ ∀ j, j < k → ∀ y, xs[j]? = some y → p y = false
  | [] => .inl (by simp)
  | x :: xs => by
    cases q : p x
    · rcases idx_cases p xs with h | ⟨k, y, h1, h2, h3⟩
      · exact .inl (by intro y hy; rcases List.mem_cons.1 hy with rfl | hy; exact q; exact h y hy)
      · refine .inr ⟨k + 1, y, h1, h2, fun j hj z hz => ?_⟩
        cases j with
        | zero => simp at hz; subst hz; exact q
        | succ j => exact h3 j (by omega) z hz
    · exact .inr ⟨0, x, rfl, q, fun j hj => absurd hj (by omega)⟩
theorem single_flat : ∀ us : List Value, (us.map fun u => [u]).flatten = us
  | [] => rfl
  | u :: us => by rw [List.map_cons, List.flatten_cons, single_flat us]; rfl
theorem acc_lo {α : Type} {T : Ty α} {e : TypeId} {w : World} {base : Nat} {v : Value} {xs : List α} (h : Acc T e w base v xs) : Acc (tLo T (Lo w.heap.size)) e w base v xs := by
  obtain ⟨css, h1, h2, h3⟩ := h
  exact ⟨css, h1, h2, fun j x cs hj hc => T.lt (h3 j x cs hj hc)⟩
theorem acc_unlo {α : Type} {T : Ty α} {e : TypeId} {w : World} {base : Nat} {v : Value} {xs : List α} {P : Nat → Prop} (h : Acc (tLo T P) e w base v xs) : Acc T e w base v xs := by
  obtain ⟨css, h1, h2, h3⟩ := h
  exact ⟨css, h1, h2, fun j x cs hj hc => T.keep (h3 j x cs hj hc) fun b hb => ⟨hb.1, rfl⟩⟩
/-- The cells of a row of readings, one each. -/
theorem acc_cells {w : World} {base : Nat} {v : Value} {xs : List Rdg} {P : Nat → Prop} (h : Acc (tLo tRdg P) 24 w base v xs) : ∃ us : List Value, us.length = xs.length ∧ w.ownsRow base 24 1 v xs.length us ∧
    ∀ (j : Nat) (x : Rdg) (u : Value), xs[j]? = some x → us[j]? = some u → Sl tStr w (fun b => (base ≤ b ∧ some b ≠ v.ownBlock) ∧ P b) u x := by
  obtain ⟨css, h1, h2, h3⟩ := h
  have hone : ∀ cs ∈ css, cs.length = 1 := by
    intro cs hcs
    obtain ⟨j, hj⟩ := List.mem_iff_getElem?.1 hcs
    have hjl : j < xs.length := by have := (List.getElem?_eq_some_iff.1 hj).1; omega
    exact (tLo tRdg P).len (h3 j _ cs (List.getElem?_eq_getElem hjl) hj)
  have hfl := flatten_len hone
  refine ⟨css.flatten, by omega, h1, fun j x u hx hu => ?_⟩
  have hjl : j < css.length := by have := (List.getElem?_eq_some_iff.1 hx).1; omega
  have hc := List.getElem?_eq_getElem hjl
  obtain ⟨u', e, hu'⟩ := rep_rdg (show tRdg.rep w (fun b => (base ≤ b ∧ some b ≠ v.ownBlock) ∧ P b) _ _ from h3 j x _ hx hc)
  have := flatten_at hone j 0 _ u' hc (by rw [e]; rfl)
  rw [Nat.mul_one, Nat.add_zero, hu] at this
  injection this with this
  subst this
  exact hu'
theorem cells_acc {w : World} {base : Nat} {v : Value} {xs : List Rdg} {P : Nat → Prop} {us : List Value} (hl : us.length = xs.length) (h : w.ownsRow base 24 1 v xs.length us)
    (hx : ∀ (j : Nat) (x : Rdg) (u : Value), xs[j]? = some x → us[j]? = some u → Sl tStr w (fun b => (base ≤ b ∧ some b ≠ v.ownBlock) ∧ P b) u x) : Acc (tLo tRdg P) 24 w base v xs :=
  ⟨us.map fun u => [u], by rw [single_flat]; exact h, by simp [hl], fun j x cs hj hc => by
    rw [List.getElem?_map] at hc
    cases hu : us[j]? with
    | none => rw [hu] at hc; cases hc
    | some u =>
      rw [hu] at hc
      injection hc with hc
      subst hc
      exact ⟨u, rfl, hx j x u hj hu⟩⟩

set_option maxRecDepth 100000 in
set_option maxHeartbeats 4000000 in
theorem del_any {v : Value} {xs : List Rdg} {K : FuncId} {caps : Array Value} {p : Rdg → Bool} {w : World} {base : Nat} {P : Nat → Prop} (h : Acc (tLo tRdg P) 24 w base v xs) (hl : xs.length ≤ 500) (hf : AsksG v.ownBlock K caps w xs p) :
    Calls Tryd.prog 61 #[v, .func (.func K) #[] caps] w fun e w' => ∃ u, e = .returned u ∧ w.grownBy w' v.ownBlock ∧ Acc (tLo tRdg P) 24 w' base u (xs.filter fun x => !p x) ∧ u.ownBlock = v.ownBlock := by
  have HI := Lib.hid (indexR_any h.sl.unlo.rd hf.asks)
  obtain ⟨us, hul, hrow, hus⟩ := acc_cells h
  have hask := hf.2
  have hent := hf.1
  clear hf
  rcases idx_cases p xs with hall | ⟨k0, x0, hx0, hp0, hpre0⟩
  · rw [idxI_none (fun j hj y hy => hall y (List.mem_of_getElem? hy))] at HI
    rw [show (xs.filter fun x => !p x) = xs from List.filter_eq_self.2 fun x hx => by rw [hall x hx]; rfl]
    have Hh := Lib.hid h
    clear h hrow hus hall hask hent
    go_enter Tryd.func61, Tryd.ntmps61
    go_wp2_with ((with_reducible refine HI.out.mono ?_); rintro e w' ⟨rfl, hb⟩)
    go_ret
    exact ⟨_, rfl, grown_bw hb _, Hh.out.after hb, rfl⟩
  · have hk0 : k0 < xs.length := (List.getElem?_eq_some_iff.1 hx0).1
    rw [idxI_some hx0 hp0 hpre0] at HI
    rcases hrow.2 with ⟨rfl, h0⟩ | ⟨g, cap, cur, rfl, hbg, hg, hn, hcm, hcs, htk⟩
    · omega
    · have hne1 : ((k0 : Int) == -1) = false := beq_eq_false_iff_ne.2 (by omega)
      have hzl : (xs.zip us).length = xs.length := by rw [List.length_zip]; omega
      have hzm : (xs.zip us).map Prod.snd = us := List.map_snd_zip (by omega)
      have hfil : ((xs.zip us).filter fun z => !p z.1).map Prod.fst = xs.filter fun x => !p x := by
        have e := List.filter_map (f := Prod.fst) (p := fun x => !p x) (l := xs.zip us)
        rw [List.map_fst_zip (by omega)] at e
        exact e.symm
      have hzat : ∀ j x u, xs[j]? = some x → us[j]? = some u → (xs.zip us)[j]? = some (x, u) := fun j x u h1 h2 => by
        rw [List.getElem?_zip_eq_some]; exact ⟨h1, h2⟩
      have hcm' : cap ≤ 9223372036854775807 := by simpa [maxLen] using hcm
      have hrow0 : Hid (w.ownsRow base 24 1 (.slice (some ⟨g, 0, none⟩) xs.length cap) xs.length us) := hrow
      clear hrow
      obtain ⟨u0, hu0⟩ : ∃ u, us[k0]? = some u := ⟨_, List.getElem?_eq_getElem (by omega)⟩
      have hst1 : keptV p (xs.zip us) (k0 + 1) = us.take k0 := by
        rw [keptV_snoc p _ (hzat k0 x0 u0 hx0 hu0), hp0, if_pos rfl, keptV_pre, hzm]
        intro j z hj hz
        have := List.getElem?_zip_eq_some.1 hz
        exact hpre0 j hj _ this.1
      have hst2 : (us.take k0).length = k0 := by rw [List.length_take]; omega
      go_enter Tryd.func61, Tryd.ntmps61
      go_wp2_with ((with_reducible refine HI.out.mono ?_); rintro e w1 ⟨rfl, hb1⟩)
      go_loopw [5, 6] (fun s5 s6 wr => ∃ j : Nat, s5 = .int .i64 (keptV p (xs.zip us) j).length ∧ s6 = .int .i64 j ∧ j ≤ xs.length ∧ (keptV p (xs.zip us) j).length < j ∧ w.grownBy wr (some g) ∧
        wr.ownsRow base 24 1 (.slice (some ⟨g, 0, none⟩) xs.length cap) xs.length (keptV p (xs.zip us) j ++ us.drop (keptV p (xs.zip us) j).length)) (fun _ s6 _ => xs.length - (intOf s6).toNat)
      case atStart => exact ⟨k0 + 1, by rw [hst1, hst2], by go_num, by omega, by rw [hst1, hst2]; omega, grown_bw hb1 _, by rw [hst1, hst2, List.take_append_drop]; exact hrow0.out.kept (grown_bw hb1 none) (.inr (by simp [Value.ownBlock]))⟩
      case round =>
        obtain ⟨j, rfl, rfl, hj, hij, hgr, ho⟩ := hrel
        have hown : ∀ b, some b ≠ (Value.slice (some ⟨g, 0, none⟩) xs.length cap).ownBlock → some b ≠ some g := fun b h e => h e
        by_cases hlt : j < xs.length
        · obtain ⟨x, hx⟩ : ∃ x, xs[j]? = some x := ⟨_, List.getElem?_eq_getElem hlt⟩
          obtain ⟨u, hu⟩ : ∃ u, us[j]? = some u := ⟨_, List.getElem?_eq_getElem (by omega)⟩
          have hsl := hus j x u hx hu
          obtain ⟨A3, c3, rfl, _, _⟩ := hsl.form
          have cj : wr.cell? ⟨g, j, none⟩ = some (.slice A3 x.length c3) := by rw [ho.cellAt j (by omega), mid_at (by omega), hu]
          have hbx := bw_refl_al wr (.cells #[.slice A3 x.length c3] 24)
          have hrd : Rd tStr wr (.slice A3 x.length c3) x := (hsl.lt.keep (D' := fun b => b < wr.heap.size) fun b hb => ⟨Nat.lt_of_lt_of_le hb.2 hgr.size, hgr.block b hb.2 hb.1.1.2⟩)
          have HC := Lib.hid (hask x (.slice A3 x.length c3) (wr.alloc (.cells #[.slice A3 x.length c3] 24)) (List.mem_of_getElem? hx) (hgr.trans (grown_bw hbx _)) (hrd.after hbx))
          have hcf := hent (#[.agg #[.slice A3 x.length c3]] ++ caps) (wr.alloc (.cells #[.slice A3 x.length c3] 24))
          have hsn := Lib.hid (keptV_snoc p (xs.zip us) (hzat j x _ hx hu))
          have Ho := Lib.hid ho
          have hul' := Lib.hid hul
          clear hsl hrd hask hus h ho hst1 hst2 hx0 hp0 hpre0 hu0 hu hul hzat hfil hzm
          have hin := keptV_len p (xs.zip us) j
          generalize hAA : keptV p (xs.zip us) j = KV at *
          have HAA := Lib.hid hAA
          clear hAA
          have hi1 : (KV.length : Int) < xs.length := by omega
          have hjI : (j : Int) < xs.length := by omega
          cases q : p x <;> rw [q] at HC <;> rw [q] at hsn <;> clear q
          · go_wp2_with ((with_reducible refine HC.out.mono ?_); rintro e w2 ⟨rfl, hb2⟩; have hbz := bw_cell hb2 (row_c0 (at_new rfl)); have ho2 := Lib.hid (Ho.out.kept (grown_bw (hbx.then hb2) none) (.inr (by simp [Value.ownBlock]))); have ci := ho2.out.cellAt KV.length (by omega); have fi := ho2.out.frozenAt KV.length; rw [mid_at (Nat.le_refl _), List.getElem?_eq_getElem (by have := hul'.out; omega)] at ci)
            have s1 := ho2.out.stored KV.length (.slice A3 x.length c3)
            rw [mid_set (by have := hul'.out; omega)] at s1
            have hsn' := hsn.out
            rw [if_neg (by simp)] at hsn'
            exact ⟨⟨j + 1, by rw [hsn', List.length_append]; simp, by go_num, hlt, by rw [hsn', List.length_append, List.length_singleton]; omega, (hgr.trans (grown_bw (hbx.then hb2) _)).trans s1.2, by rw [hsn']; exact s1.1⟩, by simp [intOf]; omega⟩
          · go_wp2_with ((with_reducible refine HC.out.mono ?_); rintro e w2 ⟨rfl, hb2⟩)
            have hsn' := hsn.out
            rw [if_pos trivial] at hsn'
            exact ⟨⟨j + 1, by rw [hsn'], by go_num, hlt, by rw [hsn']; omega, hgr.trans (grown_bw (hbx.then hb2) _), by rw [hsn']; exact Ho.out.kept (grown_bw (hbx.then hb2) none) (.inr (by simp [Value.ownBlock]))⟩, by simp [intOf]; omega⟩
        · have hj2 : j = xs.length := by omega
          subst hj2
          generalize hKV : keptV p (xs.zip us) xs.length = KV at *
          have hi5 : KV.length ≤ xs.length := by omega
          have hi0 : (KV.length : Int) < xs.length := by omega
          have hi2 : KV.length ≤ cap := by omega
          have hi3 : ¬ cap = KV.length := by omega
          have HKV := Lib.hid hKV
          have Ho := Lib.hid ho
          have hcl : ∀ ty, (Builtin.clear_ #[35] ty #[.slice (some ⟨g, KV.length, none⟩) (xs.length - KV.length) (cap - KV.length)]).run Tryd.prog wr = .ok (.tuple #[]) (wr.setCells g KV.length (List.replicate (xs.length - KV.length) (.slice none 0 0))) :=
            fun ty => run_clear_agg wr _ _ ty (.agg #[.slice none 0 0]) _ Tryd.underlying35 (fun w => by kernel_rfl) rfl rfl g KV.length _ _ (by omega) (fun t ht => by rw [ho.cellAt _ (by omega)]; simp; omega) (fun t ht => ho.frozenAt _)
          have Hus := Lib.hid hus
          have Hzm := Lib.hid hzm
          have Hfil := Lib.hid hfil
          clear hask hus h ho hst1 hst2 hx0 hp0 hpre0 hu0 hzat hzm hKV hfil
          go_wp2_with fail
          go_ret
          obtain ⟨ho1, ⟨ho2, _⟩ | ⟨g2, cap2, cur2, e2, _, hg2, _, _, hc2, ht2⟩⟩ := Ho.out
          · cases ho2
          · injection e2 with e2 _ e3
            injection e2 with e2
            injection e2 with e2
            subst e2; subst e3
            obtain ⟨cur3, k1, k2, k3⟩ := setCells_row g _ (List.replicate (xs.length - KV.length) (.slice none 0 0)) KV.length wr cur2 hg2
            have hF : KV = ((xs.zip us).filter fun z => !p z.1).map Prod.snd := by rw [← HKV.out]; unfold keptV; rw [List.take_of_length_le (by omega)]
            have hlF : KV.length = (xs.filter fun x => !p x).length := by rw [hF, ← Hfil.out, List.length_map, List.length_map]
            have hgF : w.grownBy (wr.setCells g KV.length (List.replicate (xs.length - KV.length) (.slice none 0 0))) (some g) := hgr.trans (setCells_grown g _ _ _)
            have htk3 : cur3.toList.take KV.length = KV := by
              rw [k3]
              have := congrArg (List.take KV.length) ht2
              rw [List.take_take, Nat.min_eq_left (by omega), List.take_append_of_le_length (Nat.le_refl _), List.take_length] at this
              exact this
            refine ⟨.slice (some ⟨g, 0, none⟩) KV.length cap, rfl, hgF, cells_acc (us := KV) hlF ⟨by omega, .inr ⟨g, cap, cur3, by rw [← hlF], hbg, k1, by rw [← hlF]; omega, hcm, by rw [k2]; exact hc2, by rw [← hlF, Nat.mul_one]; exact htk3⟩⟩ ?_, rfl⟩
            intro j x u hx hu
            rw [hF, List.getElem?_map] at hu
            rw [← Hfil.out, List.getElem?_map] at hx
            cases hz : ((xs.zip us).filter fun z => !p z.1)[j]? with
            | none => rw [hz] at hu; cases hu
            | some z =>
              rw [hz] at hu hx
              simp at hu hx
              obtain ⟨i, hi⟩ := List.mem_iff_getElem?.1 (List.mem_filter.1 (List.mem_of_getElem? hz)).1
              have hi' := List.getElem?_zip_eq_some.1 hi
              have := Hus.out i x u (by rw [← hx]; exact hi'.1) (by rw [← hu]; exact hi'.2)
              exact this.lt.keep fun b hb => ⟨hb.1, hgF.block b hb.2 hb.1.1.2⟩
end Go.Proofs.YthecmbmidoagaaaDoor

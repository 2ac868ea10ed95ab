/- The contracts of 'numbers', 'all' at names, and both 'Valid'. Conditions: what the slice reads as; the library's tables. -/
import Derived.Test.YtfdmpbihepkjnaaDoorS4
import Derived.Test.YtfdmpbihepkjnaaDoorPlain3
import Derived.Test.YtfdmpbihepkjnaaDoorMap
import Derived.StringKeys
namespace Go.Proofs.YtfdmpbihepkjnaaDoor
open Go.RowKit Go.Maps
open Pl

theorem bw_grown {w0 w w' : World} (h : Bw w0 w) {b : Nat} (hg : w.grownBy w' (some b)) (hb : w0.heap.size ≤ b) : Bw w0 w' :=
  ⟨hg.os.trans h.os, hg.tape.trans h.tape, hg.output.trans h.output, Nat.le_trans h.size hg.size, fun k hk => (hg.block k (Nat.lt_of_lt_of_le hk h.size) (fun e => by injection e with e; omega)).trans (h.block k hk)⟩

theorem keyed9 : Keyed Tryd.prog 9 := string_keyed Tryd.underlying9
theorem keyStr {x : ByteArray} (h : x.size ≤ maxLen) : keyOf Tryd.prog 9 (.string x) = some (.string x.data.toList) := WideMaps.keyOf_string_mk Tryd.underlying9 h
theorem zero3 (w : World) : (zeroValue 3).run Tryd.prog w = .ok (.int .i64 0) w := by kernel_rfl

/-- The map's entries. -/
def numE (l : List (ByteArray × Int)) : List (Value × Value) := l.map fun p => (.string p.1, .int .i64 p.2)

theorem numE_none {l : List (ByteArray × Int)} {x : ByteArray} (h : posN x (l.map Prod.fst) = none) : ∀ p ∈ numE l, p.1 ≠ .string x := by
  intro p hp e
  obtain ⟨q, hq, rfl⟩ := List.mem_map.1 hp
  injection e with e
  exact posN_mem.1 h (List.mem_map.2 ⟨q, hq, e⟩)
theorem numE_some {l : List (ByteArray × Int)} {x : ByteArray} {j : Nat} (h : posN x (l.map Prod.fst) = some j) : ∃ u, (numE l)[j]? = some (.string x, u) := by
  have h1 := (posN_spec h).1
  rw [List.getElem?_map] at h1
  cases hl : l[j]? with
  | none => rw [hl] at h1; cases h1
  | some q =>
    rw [hl] at h1
    injection h1 with h1
    exact ⟨.int .i64 q.2, by unfold numE; rw [List.getElem?_map, hl, ← h1]; rfl⟩
theorem numE_put (l : List (ByteArray × Int)) (x : ByteArray) (v : Int) : (posN x (l.map Prod.fst) = none → numE (putN l x v) = numE l ++ [(.string x, .int .i64 v)]) ∧
    (∀ j, posN x (l.map Prod.fst) = some j → numE (putN l x v) = (numE l).set j (.string x, .int .i64 v)) := by
  constructor
  · intro h; unfold putN; rw [h]; simp [numE]
  · intro j h; unfold putN; rw [h]; simp [numE, List.map_set]

set_option maxRecDepth 100000 in
theorem numbers_any {v : Value} {t : List ByteArray} {w : World} (h : Rd tStr w v t) :
    Calls Tryd.prog 31 #[v] w fun e w' => e = .returned (.map (some w.heap.size)) ∧ Bw w w' ∧ Mp Tryd.prog 9 w' w.heap.size (numE (nums t)) := by
  have hm := h.len_le
  obtain ⟨A, c, rfl, _, _⟩ := h.form
  have hmm : ∀ (n : Int) (W : World), (Instr.makeMap 46 (some (.int .i64 n))).run Tryd.prog W = .ok (.map (some W.heap.size)) (W.alloc (.map #[] 0)) := fun n W => by
    simp [Instr.makeMap, run_underlying Tryd.underlying46, asInt, asIntOf]
  go_enter Tryd.func31, Tryd.ntmps31
  go_wp2_with fail
  go_loopw [11] (fun i wr => ∃ k : Nat, k ≤ t.length ∧ i = .int .i64 k ∧ Bw w wr ∧ Mp Tryd.prog 9 wr w.heap.size (numE (numsTo t k))) (fun i _ => t.length - (intOf i).toNat)
  case atStart => exact ⟨0, Nat.zero_le _, rfl, bw_al (Below.refl _ _) _, Mp.made _ _ _⟩
  case round =>
    obtain ⟨k, hk, rfl, hbr, hM⟩ := hrel
    by_cases hlt : k < t.length
    · obtain ⟨b, off, y, rfl, hy, hy1, hc⟩ := (h.after hbr).str hlt
      have hys : y.size ≤ maxLen := by unfold maxLen; omega
      have hst : Hid (numsTo t (k + 1) = putN (numsTo t k) y ((k : Int) + 1)) := by show putN _ (t.getD k ⟨#[]⟩) _ = _; rw [getD_of hy.out]
      clear hmm
      cases hp : posN y ((numsTo t k).map Prod.fst) with
      | none =>
        have Hn := Lib.hid (numE_none hp)
        have Hq := Lib.hid ((numE_put (numsTo t k) y ((k : Int) + 1)).1 hp)
        clear hp
        go_wp2_with (at_mapUpdate; refine wpList_put_new rfl _ _ _ rfl keyed9 Tryd.underlying46 hM rfl rfl rfl (keyStr hys) Hn.out ?_; intro w1 hM1 hg1)
        exact ⟨⟨k + 1, hlt, by go_num, bw_grown hbr hg1 (Nat.le_refl _), by rw [hst.out, Hq.out]; exact hM1⟩, by simp [intOf]; omega⟩
      | some j =>
        obtain ⟨u, hu⟩ := numE_some hp
        have Hu := Lib.hid hu
        have Hq := Lib.hid ((numE_put (numsTo t k) y ((k : Int) + 1)).2 j hp)
        clear hp hu
        go_wp2_with (at_mapUpdate; refine wpList_put_old rfl _ _ _ rfl keyed9 Tryd.underlying46 hM rfl rfl rfl (keyStr hys) Hu.out ?_; intro w1 hM1 hg1)
        exact ⟨⟨k + 1, hlt, by go_num, bw_grown hbr hg1 (Nat.le_refl _), by rw [hst.out, Hq.out]; exact hM1⟩, by simp [intOf]; omega⟩
    · have hk2 : k = t.length := by omega
      subst hk2
      go_wp2_with fail
      go_ret
      exact ⟨rfl, hbr, hM⟩

set_option maxRecDepth 100000 in
theorem all_any {v : Value} {t : List ByteArray} {w : World} (hT : Tb w) (h : Rd tStr w v t) :
    Calls Tryd.prog 33 #[v, .func (.func 34) #[] #[]] w fun e w' => e = .returned (.bool (t.all nameB)) ∧ Bw w w' := by
  have hm := h.len_le
  obtain ⟨A, c, rfl, _, _⟩ := h.form
  go_enter Tryd.func33, Tryd.ntmps33
  go_wp2_with fail
  go_loopw [9] (fun i wr => ∃ k : Nat, k ≤ t.length ∧ i = .int .i64 k ∧ Bw w wr ∧ Pre k (fun j => nameB (t.getD j ⟨#[]⟩) = true)) (fun i _ => t.length - (intOf i).toNat)
  case atStart => exact ⟨0, Nat.zero_le _, rfl, Below.refl _ _, Pre.zero⟩
  case round =>
    obtain ⟨k, hk, rfl, hbr, hpre⟩ := hrel
    by_cases hlt : k < t.length
    · obtain ⟨b, off, y, rfl, hy, hy1, hc⟩ := (h.after hbr).str hlt
      have HN := Lib.hid (isName_any (s := y) (hT.after hbr))
      have hcf : (callFunc 34 #[.string y]).run Tryd.prog wr = .ok (.enter 34 #[.string y]) wr := by kernel_rfl
      cases q : nameB y
      · have Hr : Hid (t.all nameB = false) := by
          show _ = _
          rw [List.all_eq_false]
          exact ⟨y, List.mem_of_getElem? hy.out, by rw [q]; simp⟩
        rw [q] at HN
        clear q
        go_wp2_with ((with_reducible refine HN.out.mono ?_); rintro e w' ⟨rfl, hb⟩)
        go_ret
        exact ⟨ret_b Hr.out.symm, hbr.then hb⟩
      · rw [q] at HN
        have Hq : Hid (nameB (t.getD k ⟨#[]⟩) = true) := by show _ = _; rw [getD_of hy.out]; exact q
        clear q
        go_wp2_with ((with_reducible refine HN.out.mono ?_); rintro e w' ⟨rfl, hb⟩)
        exact ⟨⟨k + 1, hlt, by go_num, hbr.then hb, hpre.snoc Hq.out⟩, by simp [intOf]; omega⟩
    · have Hr : Hid (t.all nameB = true) := by
        show _ = _
        rw [List.all_eq_true]
        intro y hy
        obtain ⟨j, hj⟩ := List.mem_iff_getElem?.1 hy
        have hjl := (List.getElem?_eq_some_iff.1 hj).1
        have this : nameB (t.getD j ⟨#[]⟩) = true := hpre j (by omega)
        rwa [getD_of hj] at this
      go_wp2_with fail
      go_ret
      exact ⟨ret_b Hr.out.symm, hbr⟩

/-- A table. -/
def vT (t : List ByteArray) : Bool := validB nameB t

theorem valid_any {v : Value} {t : List ByteArray} {w : World} (hT : Tb w) (h : Rd tStr w v t) :
    Calls Tryd.prog 17 #[v] w fun e w' => e = .returned (.bool (vT t)) ∧ Bw w w' := by
  have hm := h.len_le
  have HA := Lib.hid (all_any hT h)
  have HN := Lib.hid (fun (w' : World) (hb : Bw w w') => numbers_any (h.after hb))
  obtain ⟨A, c, rfl, _, _⟩ := h.form
  unfold vT validB
  by_cases h5 : t.length ≤ 500
  · rw [decide_eq_true h5, Bool.true_and]
    have hE0 : ((t.length : Int) ≤ 500) := by omega
    cases q : t.all nameB
    · rw [q] at HA
      clear q
      go_enter Tryd.func17, Tryd.ntmps17
      go_wp2_with (go_at_call 33; (with_reducible refine HA.out.mono ?_); rintro e w1 ⟨rfl, hb1⟩)
      go_ret
      exact ⟨rfl, hb1⟩
    · rw [q] at HA
      have hl := nums_len t
      clear q
      by_cases hn : t.Nodup
      · have hNE : Hid ((((numE (nums t)).length : Int) == (t.length : Int)) = true) := by
          show _ = _
          have : (numE (nums t)).length = (nums t).length := by simp [numE]
          rw [this]
          rw [hl.2 hn]; simp
        rw [decide_eq_true hn]
        clear hl hn
        go_enter Tryd.func17, Tryd.ntmps17
        go_wp2_with (first
          | (go_at_call 33; (with_reducible refine HA.out.mono ?_); rintro e w1 ⟨rfl, hb1⟩)
          | (go_at_call 31; (with_reducible refine (HN.out _ hb1).mono ?_); rintro e w2 ⟨rfl, hb2, hM⟩; have hL := hM.len Tryd.underlying46))
        go_ret
        exact ⟨ret_b hNE.out, hb1.then hb2⟩
      · have hNE : Hid ((((numE (nums t)).length : Int) == (t.length : Int)) = false) := by
          show _ = _
          have : (numE (nums t)).length = (nums t).length := by simp [numE]
          rw [this]
          simp only [beq_eq_false_iff_ne, ne_eq]
          intro e
          exact hn (hl.1 (by omega))
        rw [decide_eq_false hn]
        clear hl hn
        go_enter Tryd.func17, Tryd.ntmps17
        go_wp2_with (first
          | (go_at_call 33; (with_reducible refine HA.out.mono ?_); rintro e w1 ⟨rfl, hb1⟩)
          | (go_at_call 31; (with_reducible refine (HN.out _ hb1).mono ?_); rintro e w2 ⟨rfl, hb2, hM⟩; have hL := hM.len Tryd.underlying46))
        go_ret
        exact ⟨ret_b hNE.out, hb1.then hb2⟩
  · rw [decide_eq_false h5]
    go_enter Tryd.func17, Tryd.ntmps17
    go_wp2_with fail
    go_ret
    exact ⟨rfl, Below.refl _ _⟩

set_option maxRecDepth 100000 in
theorem rvalid_any {v : Value} {t : List ByteArray} {w : World} (h : Rd tStr w v t) :
    Calls Tryd.prog 18 #[v] w fun e w' => e = .returned (.bool (vT t)) ∧ Bw w w' := by
  have hm := h.len_le
  have HP := Lib.hid (fun (w' : World) (hb : Bw w w') (x : ByteArray) => position_any (x := x) (h.after hb))
  obtain ⟨A, c, rfl, _, _⟩ := h.form
  by_cases h5 : 500 < t.length
  · have Hv : Hid (vT t = false) := by show _ = _; unfold vT validB; rw [decide_eq_false (by omega)]; rfl
    go_enter Tryd.func18, Tryd.ntmps18
    go_wp2_with fail
    go_ret
    exact ⟨ret_b Hv.out.symm, Below.refl _ _⟩
  · go_enter Tryd.func18, Tryd.ntmps18
    go_wp2_with fail
    go_loopw [3] (fun i wr => ∃ k : Nat, k ≤ t.length ∧ i = .int .i64 k ∧ Bw w wr ∧ Pre k (fun j => nameB (t.getD j ⟨#[]⟩) = true ∧ posI t (t.getD j ⟨#[]⟩) = j)) (fun i _ => t.length - (intOf i).toNat)
    case atStart => exact ⟨0, Nat.zero_le _, rfl, Below.refl _ _, Pre.zero⟩
    case round =>
      obtain ⟨k, hk, rfl, hbr, hpre⟩ := hrel
      by_cases hlt : k < t.length
      · obtain ⟨b, off, y, rfl, hy, hy1, hc0⟩ := (h.after hbr).str hlt
        have HN := Lib.hid (named_any (s := y) (w := wr))
        have hbl := World.block_lt_of_cell? wr _ hc0
        cases q : nameB y
        · have Hv : Hid (vT t = false) := by
            show _ = _
            unfold vT validB
            have : t.all nameB = false := by
              rw [List.all_eq_false]
              exact ⟨y, List.mem_of_getElem? hy.out, by rw [q]; simp⟩
            rw [this]; simp
          rw [q] at HN
          clear q
          have hc := hc0
          go_wp2_with (go_at_call 35; (with_reducible refine HN.out.mono ?_); rintro e w' ⟨rfl, hb⟩)
          go_ret
          exact ⟨ret_b Hv.out.symm, hbr.then hb⟩
        · rw [q] at HN
          have hc := hc0
          by_cases hp : posI t y = k
          · have Hq : Hid (nameB (t.getD k ⟨#[]⟩) = true ∧ posI t (t.getD k ⟨#[]⟩) = k) := by show _ ∧ _; rw [getD_of hy.out]; exact ⟨q, hp⟩
            clear q
            go_wp2_with (first
              | (go_at_call 35; (with_reducible refine HN.out.mono ?_); rintro e w' ⟨rfl, hb⟩; have hc2 := (World.cell?_of_block (w := wr) (hb.block _ hbl)).trans hc0)
              | (go_at_call 32; (with_reducible refine (HP.out _ (hbr.then hb) y).mono ?_); rintro e w2 ⟨rfl, rfl⟩))
            exact ⟨⟨k + 1, hlt, by go_num, hbr.then hb, hpre.snoc Hq.out⟩, by simp [intOf]; omega⟩
          · have Hv : Hid (vT t = false) := by
              show _ = _
              unfold vT validB
              have : ¬ t.Nodup := fun hn => hp (by
                have := (nodup_first t).1 hn k hlt
                rwa [getD_of hy.out] at this)
              rw [decide_eq_false this]; simp
            clear q
            go_wp2_with (first
              | (go_at_call 35; (with_reducible refine HN.out.mono ?_); rintro e w' ⟨rfl, hb⟩; have hc2 := (World.cell?_of_block (w := wr) (hb.block _ hbl)).trans hc0)
              | (go_at_call 32; (with_reducible refine (HP.out _ (hbr.then hb) y).mono ?_); rintro e w2 ⟨rfl, rfl⟩))
            go_ret
            exact ⟨ret_b Hv.out.symm, hbr.then hb⟩
      · have Hv : Hid (vT t = true) := by
          show _ = _
          unfold vT validB
          have h1 : t.all nameB = true := by
            rw [List.all_eq_true]
            intro y hy
            obtain ⟨j, hj⟩ := List.mem_iff_getElem?.1 hy
            have hjl := (List.getElem?_eq_some_iff.1 hj).1
            have this : nameB (t.getD j ⟨#[]⟩) = true ∧ posI t (t.getD j ⟨#[]⟩) = j := hpre j (by omega)
            rw [getD_of hj] at this
            exact this.1
          have h2 : t.Nodup := (nodup_first t).2 fun i hi => (show nameB (t.getD i ⟨#[]⟩) = true ∧ posI t (t.getD i ⟨#[]⟩) = i from hpre i (by omega)).2
          rw [h1, decide_eq_true h2, decide_eq_true (by omega)]; rfl
        go_wp2_with fail
        go_ret
        exact ⟨ret_b Hv.out.symm, hbr⟩
end Go.Proofs.YtfdmpbihepkjnaaDoor

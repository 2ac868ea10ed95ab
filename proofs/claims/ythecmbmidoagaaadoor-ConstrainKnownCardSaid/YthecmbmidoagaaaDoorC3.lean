/- The contracts of 'Has' (the program's and the reference's), of 'among', 'count', the reference's 'Matches' and 'Barrier'. Conditions: what the arguments read as. -/
import Derived.Test.YthecmbmidoagaaaDoorC2
import Derived.Test.YthecmbmidoagaaaDoorS4
import Derived.Test.YthecmbmidoagaaaDoorMap
import Derived.StringKeys
import Derived.BigQuiet
namespace Go.Proofs.YthecmbmidoagaaaDoor
open Go.RowKit Go.Maps
open Pl

theorem bw_grown {w0 w w' : World} (h : Bw w0 w) {b : Nat} (hg : w.grownBy w' (some b)) (hb : w0.heap.size ≤ b) : Bw w0 w' :=
  ⟨hg.os.trans h.os, hg.tape.trans h.tape, hg.output.trans h.output, Nat.le_trans h.size hg.size, fun k hk => (hg.block k (Nat.lt_of_lt_of_le hk h.size) (fun e => by injection e with e; omega)).trans (h.block k hk)⟩
theorem bw_cell {w w' : World} {p : Addr} {v : Value} (hb : Bw w w') (h : w.cell? p = some v) : w'.cell? p = some v := (hb.cell (World.block_lt_of_cell? w p h)).trans h
theorem bw_refl_al (w : World) (o : Obj) : Bw w (w.alloc o) := (Below.refl _ _).alloc (Nat.le_refl _) o

theorem keyedS : Keyed Tryd.prog 9 := string_keyed Tryd.underlying9
theorem keyStr {x : ByteArray} (h : x.size ≤ maxLen) : keyOf Tryd.prog 9 (.string x) = some (.string x.data.toList) := WideMaps.keyOf_string_mk Tryd.underlying9 h
theorem zeroB (w : World) : (zeroValue 4).run Tryd.prog w = .ok (.bool false) w := by kernel_rfl

/-- The map 'in': its keys. -/
def setE (L : List ByteArray) : List (Value × Value) := L.map fun s => (.string s, .bool true)
theorem setE_new {L : List ByteArray} {x : ByteArray} (h : x ∉ L) : ∀ p ∈ setE L, p.1 ≠ .string x := by
  intro p hp e
  obtain ⟨q, hq, rfl⟩ := List.mem_map.1 hp
  injection e with e
  subst e
  exact h hq
theorem setE_snoc (L : List ByteArray) (x : ByteArray) : setE L ++ [(.string x, .bool true)] = setE (L ++ [x]) := by simp [setE]

/-- The map holds the tags of a reading. -/
def SetS (w : World) (b : Nat) (r : List ByteArray) : Prop := ∃ L, Mp Tryd.prog 9 w b (setE L) ∧ ∀ s, s ∈ L ↔ s ∈ r
theorem SetS.look {w : World} {b : Nat} {r : List ByteArray} (h : SetS w b r) {x : ByteArray} (hx : x.size ≤ maxLen) :
    (Instr.lookup 59 (.map (some b)) (.string x) false).run Tryd.prog w = .ok (.bool (amongB r x)) w := by
  obtain ⟨L, hM, hL⟩ := h
  cases hb : amongB r x
  · have hn : x ∉ L := fun e => by
      have := (hL x).1 e
      unfold amongB at hb
      rw [List.any_eq_false] at hb
      exact absurd (hb x this) (by simp)
    rw [hM.look_none keyedS Tryd.underlying59 (keyStr hx) (zeroB w) (setE_new hn)]; simp
  · have hm : x ∈ L := by
      unfold amongB at hb
      rw [List.any_eq_true] at hb
      obtain ⟨y, hy, e⟩ := hb
      have e : y = x := by simpa using e
      subst e
      exact (hL y).2 hy
    rw [hM.look_some keyedS Tryd.underlying59 (keyStr hx) (v := .bool true) (List.mem_map.2 ⟨x, hm, rfl⟩)]; simp
theorem SetS.after {w w' : World} {b : Nat} {r : List ByteArray} (h : SetS w b r) (hb : Bw w w') : SetS w' b r :=
  let ⟨L, h1, h2⟩ := h
  ⟨L, h1.after hb, h2⟩

theorem has1_any {r : List ByteArray} {g b : Nat} {x : ByteArray} {w : World} (hS : SetS w b r) (hc : w.cell? ⟨g, 0, none⟩ = some (.map (some b))) (hx : x.size ≤ maxLen) :
    Calls Tryd.prog 34 #[.string x, .pointer (some ⟨g, 0, none⟩)] w fun e w' => e = .returned (.bool (!amongB r x)) ∧ Bw w w' := by
  have hl := hS.look hx
  clear hS
  go_enter Tryd.func34, Tryd.ntmps34
  go_wp2_with fail
  go_ret
  exact ⟨rfl, Below.refl _ _⟩

set_option maxRecDepth 100000 in
theorem has_any {u v : Value} {r tags : List ByteArray} {w : World} (hr : Rd tStr w u r) (ht : Rd tStr w v tags) :
    Calls Tryd.prog 13 #[.agg #[u], v] w fun e w' => e = .returned (.bool (hasB r tags)) ∧ Bw w w' := by
  have hm := hr.len_le
  obtain ⟨A, c, rfl, _, _⟩ := hr.form
  have hmm := @run_makeMap Tryd.prog
  have hb1 := bw_refl_al w (.cells #[.slice A r.length c] 24)
  have hb2 := bw_al hb1 (.map #[] 0)
  have hb3 := bw_al hb2 (.cells #[.map (some (w.heap.size + 1))] 59)
  obtain ⟨W3, hW3⟩ : ∃ W3, W3 = ((w.alloc (.cells #[.slice A r.length c] 24)).alloc (.map #[] 0)).alloc (.cells #[.map (some (w.heap.size + 1))] 59) := ⟨_, rfl⟩
  have hsz : W3.heap.size = w.heap.size + 3 := by rw [hW3]; simp
  have hcg : W3.heap[w.heap.size + 2]? = some (.cells #[.map (some (w.heap.size + 1))] 59 (0, 0)) := by rw [hW3]; exact at_new (by simp)
  have hM0 : Mp Tryd.prog 9 W3 (w.heap.size + 1) (setE []) := by
    rw [hW3]
    have := (Mp.made Tryd.prog 9 (w.alloc (.cells #[.slice A r.length c] 24))).alloc (.cells #[.map (some (w.heap.size + 1))] 59)
    rw [sz_alloc] at this
    exact this
  go_enter Tryd.func13, Tryd.ntmps13
  go_wp2_with fail
  go_loopw [12] (fun i wr => ∃ (k : Nat) (L : List ByteArray), k ≤ r.length ∧ i = .int .i64 k ∧ Bw w wr ∧ wr.heap[w.heap.size + 2]? = some (.cells #[.map (some (w.heap.size + 1))] 59 (0, 0)) ∧ Mp Tryd.prog 9 wr (w.heap.size + 1) (setE L) ∧ ∀ s, s ∈ L ↔ s ∈ r.take k) (fun i _ => r.length - (intOf i).toNat)
  case atStart => exact ⟨0, [], Nat.zero_le _, rfl, by first | exact hb3 | simpa using hb3, by first | exact hW3 ▸ hcg | simpa [hW3] using hcg, by first | exact hW3 ▸ hM0 | simpa [hW3] using hM0, by simp⟩
  case round =>
    obtain ⟨k, L, hk, rfl, hbr, hcr, hM, hL⟩ := hrel
    have hcc : wr.cell? ⟨w.heap.size + 2, 0, none⟩ = some (.map (some (w.heap.size + 1))) := by rw [cell_of_row wr _ 0 _ _ _ hcr]; rfl
    clear hcg hM0 hW3 hsz hb1 hb2 hb3 hmm
    by_cases hlt : k < r.length
    · obtain ⟨b, off, y, rfl, hy, hy1, hc⟩ := (hr.after hbr).str hlt
      have hys : y.size ≤ maxLen := by unfold maxLen; omega
      have hmem : Hid (∀ s, s ∈ r.take (k + 1) ↔ s ∈ L ∨ s = y) := by
        show ∀ s, _
        intro s
        rw [List.take_add_one, hy.out, List.mem_append, ← hL s]; simp
      by_cases hin : y ∈ L
      · obtain ⟨j, hj⟩ := List.mem_iff_getElem?.1 hin
        have hju : (setE L)[j]? = some (.string y, .bool true) := by unfold setE; rw [List.getElem?_map, hj]; rfl
        have Hu := Lib.hid hju
        have Hin := Lib.hid hin
        have HL := Lib.hid hL
        clear hju hj hin hL
        go_wp2_with (at_mapUpdate; refine wpList_put_old rfl _ _ _ rfl keyedS Tryd.underlying59 hM rfl rfl rfl (keyStr hys) Hu.out ?_; intro w1 hM1 hg1)
        refine ⟨⟨k + 1, L, hlt, by go_num, bw_grown hbr hg1 (by omega), (hg1.block _ (Array.getElem?_eq_some_iff.1 hcr).1 (by intro e; injection e with e; omega)).trans hcr, ?_, ?_⟩, by simp [intOf]; omega⟩
        · have : (setE L).set j (.string y, .bool true) = setE L := by
            apply List.ext_getElem?
            intro i
            rw [List.getElem?_set]
            split
            · rename_i e; subst e; rw [Hu.out]; rw [if_pos (List.getElem?_eq_some_iff.1 Hu.out).1]
            · rfl
          have hM2 : Mp Tryd.prog 9 w1 (w.heap.size + 1) ((setE L).set j (.string y, .bool true)) := hM1
          rw [this] at hM2
          exact hM2
        · intro s
          rw [hmem.out s]
          exact ⟨fun h => .inl h, fun h => h.elim id fun e => e ▸ Hin.out⟩
      · have Hn := Lib.hid (setE_new hin)
        have HL := Lib.hid hL
        clear hin hL
        go_wp2_with (at_mapUpdate; refine wpList_put_new rfl _ _ _ rfl keyedS Tryd.underlying59 hM rfl rfl rfl (keyStr hys) Hn.out ?_; intro w1 hM1 hg1)
        refine ⟨⟨k + 1, L ++ [y], hlt, by go_num, bw_grown hbr hg1 (by omega), (hg1.block _ (Array.getElem?_eq_some_iff.1 hcr).1 (by intro e; injection e with e; omega)).trans hcr, by rw [← setE_snoc]; exact hM1, ?_⟩, by simp [intOf]; omega⟩
        intro s
        rw [hmem.out s]; simp
    · have hk2 : k = r.length := by omega
      subst hk2
      have hS : SetS wr (w.heap.size + 1) r := ⟨L, hM, fun s => by rw [hL s, List.take_length]⟩
      have hask : Asks tStr vOne 34 #[.pointer (some ⟨w.heap.size + 2, 0, none⟩)] wr tags (fun x => !amongB r x) := by
        refine ⟨fun _ _ => by kernel_rfl, ?_⟩
        rintro x cs w2 hx hb ⟨rfl, hxs⟩
        exact has1_any (hS.after hb) (bw_cell hb hcc) hxs
      have HC := Lib.hid (containsS_any (ht.after hbr) hask)
      have hv : (!tags.any fun x => !amongB r x) = hasB r tags := by unfold hasB; rw [List.all_eq_not_any_not]
      have Hv := Lib.hid hv
      clear hv hS hask ht hr hM hL
      go_wp2_with ((with_reducible refine HC.out.mono ?_); rintro e w' ⟨rfl, hb⟩)
      go_ret
      exact ⟨ret_b Hv.out, hbr.then hb⟩

theorem among_any {v : Value} {t : List ByteArray} {x : ByteArray} {w : World} (h : Rd tStr w v t) :
    Calls Tryd.prog 35 #[v, .string x] w fun e w' => e = .returned (.bool (amongB t x)) ∧ w' = w := by
  have hm := h.len_le
  obtain ⟨A, c, rfl, _, _⟩ := h.form
  go_enter Tryd.func35, Tryd.ntmps35
  go_wp2_with fail
  go_loopw [5] (fun i wr => ∃ k : Nat, k ≤ t.length ∧ i = .int .i64 k ∧ wr = w ∧ Pre k (fun j => t.getD j ⟨#[]⟩ ≠ x)) (fun i _ => t.length - (intOf i).toNat)
  case atStart => exact ⟨0, Nat.zero_le _, rfl, rfl, Pre.zero⟩
  case round =>
    obtain ⟨k, hk, rfl, rfl, hpre⟩ := hrel
    by_cases hlt : k < t.length
    · obtain ⟨b, off, y, rfl, hy, _, hc⟩ := h.str hlt
      by_cases e : y = x
      · subst e
        have hp : amongB t y = true := by unfold amongB; rw [List.any_eq_true]; exact ⟨y, List.mem_of_getElem? hy.out, by simp⟩
        have Hp := Lib.hid hp
        have e1 := str_eq y
        clear hpre hp
        go_wp2_with fail
        go_ret
        exact ⟨ret_b Hp.out.symm, rfl⟩
      · have e1 := str_ne e
        have Hn : Hid (t.getD k ⟨#[]⟩ ≠ x) := by show _ ≠ _; rw [getD_of hy.out]; exact e
        go_wp2_with fail
        exact ⟨⟨k + 1, hlt, by go_num, by first | rfl | trivial, hpre.snoc Hn.out⟩, by simp [intOf]; omega⟩
    · have hp : amongB t x = false := by
        unfold amongB
        rw [List.any_eq_false]
        intro y hy
        obtain ⟨j, hj⟩ := List.mem_iff_getElem?.1 hy
        have hjl := (List.getElem?_eq_some_iff.1 hj).1
        have h3 : t.getD j ⟨#[]⟩ ≠ x := hpre j (by omega)
        rw [getD_of hj] at h3
        simpa using h3
      have Hp := Lib.hid hp
      clear hp
      go_wp2_with fail
      go_ret
      exact ⟨ret_b Hp.out.symm, rfl⟩

set_option maxRecDepth 100000 in
theorem rhas_any {u v : Value} {r tags : List ByteArray} {w : World} (hr : Rd tStr w u r) (ht : Rd tStr w v tags) :
    Calls Tryd.prog 14 #[.agg #[u], v] w fun e w' => e = .returned (.bool (hasB r tags)) ∧ Bw w w' := by
  have hm := ht.len_le
  obtain ⟨A, c, rfl, _, _⟩ := hr.form
  obtain ⟨A', c', rfl, _, _⟩ := ht.form
  have hb1 := bw_refl_al w (.cells #[.slice A r.length c] 24)
  go_enter Tryd.func14, Tryd.ntmps14
  go_wp2_with fail
  go_loopw [5] (fun i wr => ∃ k : Nat, k ≤ tags.length ∧ i = .int .i64 k ∧ Dr (w.alloc (.cells #[.slice A r.length c] 24)) wr ∧ Pre k (fun j => amongB r (tags.getD j ⟨#[]⟩) = true)) (fun i _ => tags.length - (intOf i).toNat)
  case atStart => exact ⟨0, Nat.zero_le _, rfl, Dr.refl _, Pre.zero⟩
  case round =>
    obtain ⟨k, hk, rfl, hd, hpre⟩ := hrel
    have hbw := hb1.then hd.bw
    have hc0 : wr.cell? ⟨w.heap.size, 0, none⟩ = some (.slice A r.length c) := bw_cell hd.bw (by go_simp)
    by_cases hlt : k < tags.length
    · obtain ⟨b, off, y, rfl, hy, _, hc⟩ := (ht.after hbw).str hlt
      have hr1 := hr.after hbw
      cases q : amongB r y
      · have Hr : Hid (hasB r tags = false) := by
          show _ = _
          unfold hasB
          rw [List.all_eq_false]
          exact ⟨y, List.mem_of_getElem? hy.out, by rw [q]; simp⟩
        have Hq := Lib.hid q
        clear q hr ht
        go_wp2_with fail
        go_quiet ((go_at_call 35; exact Dr.quiet' (congrArg Value.bool Hq.out) ((among_any (hr1.dn _)).mono fun e w' ⟨h1, h2⟩ => ⟨h1, h2 ▸ Dr.refl _⟩)))
        go_wp2_with fail
        go_ret
        exact ⟨ret_b Hr.out.symm, hbw.drewN _⟩
      · have Hq : Hid (amongB r (tags.getD k ⟨#[]⟩) = true) := by show _ = _; rw [getD_of hy.out]; exact q
        have Hq' := Lib.hid q
        clear q hr ht
        go_wp2_with fail
        go_quiet ((go_at_call 35; exact Dr.quiet' (congrArg Value.bool Hq'.out) ((among_any (hr1.dn _)).mono fun e w' ⟨h1, h2⟩ => ⟨h1, h2 ▸ Dr.refl _⟩)))
        go_wp2_with fail
        exact ⟨⟨k + 1, hlt, by go_num, hd.drewN _, hpre.snoc Hq.out⟩, by simp [intOf]; omega⟩
    · have Hr : Hid (hasB r tags = true) := by
        show _ = _
        unfold hasB
        rw [List.all_eq_true]
        intro y hy
        obtain ⟨j, hj⟩ := List.mem_iff_getElem?.1 hy
        have h3 : amongB r (tags.getD j ⟨#[]⟩) = true := hpre j (by have := (List.getElem?_eq_some_iff.1 hj).1; omega)
        rwa [getD_of hj] at h3
      go_wp2_with fail
      go_ret
      exact ⟨ret_b Hr.out.symm, hbw⟩
end Go.Proofs.YthecmbmidoagaaaDoor

/- The contract of the program's 'read', whole. -/
import Derived.Test.YtockfkmemoggiaaS6
namespace Go.Proofs.Ytockfkmemoggiaa
open Go.RowKit Go.Maps
open Pl

theorem read1_any {b : Value} {g : Nat} {S : List Int} {y : Int} {w : World} (h : SetV w b S) (h1 : w.cell? ⟨g, 1, none⟩ = some b)
    (hy1 : -9223372036854775808 ≤ y) (hy2 : y ≤ 9223372036854775807) :
    Calls Try.prog 37 #[.int .i64 y, .pointer (some ⟨g, 0, none⟩)] w fun e w' => e = .returned (.bool (!hasB S y)) ∧ Dr w w' := by
  have lk2 := h.look hy1 hy2
  clear h
  cases q : hasB S y <;> have Hq := Lib.hid q <;> rw [q] at lk2 <;> clear q
  all_goals
    go_enter Try.func37, Try.ntmps37
    go_wp2
    go_ret
    exact ⟨ret_b (by rfl), Dr.refl _⟩

theorem any_not_all (x la : List Int) : (x.any fun y => !hasB la y) = !allB x la [] := by
  rw [← not_any_all]
  simp [hasB]

/-- What is known at the head of a round. -/
structure LI (w wr : World) (a b c : Value) (s : Snd) (k : Nat) : Prop where
  lay : Lay w.heap.size wr a b c
  bw : Bw w wr
  m1 : Mp Try.prog 3 wr (w.heap.size + 1 + 1) (setE s.vow)
  m2 : Mp Try.prog 3 wr (w.heap.size + 1 + 1 + 1) (setE s.con)
  m3 : Mp Try.prog 72 wr (w.heap.size + 1 + 1 + 1 + 1) (onE (s.ons.take k))

theorem li0 {a b c : Value} {s : Snd} {w w2 : World} (h : Mid2 w w2 a b c s) : LI w w2 a b c s 0 :=
  ⟨h.lay, h.bw, h.m1, h.m2, by simpa [onE] using Mp.of_empty h.m3⟩
theorem LI.after {w wr wr' : World} {a b c : Value} {s : Snd} {k : Nat} (h : LI w wr a b c s k) (hb : Bw wr wr') : LI w wr' a b c s k :=
  ⟨h.lay.after hb, h.bw.then hb, h.m1.after hb, h.m2.after hb, h.m3.after hb⟩
theorem LI.store {w wr wr' : World} {a b c : Value} {s : Snd} {k : Nat} {o : List Int} (h : LI w wr a b c s k) (hg : wr.grownBy wr' (some (w.heap.size + 1 + 1 + 1 + 1))) (ho : s.ons[k]? = some o)
    (hM : Mp Try.prog 72 wr' (w.heap.size + 1 + 1 + 1 + 1) (onE (s.ons.take k) ++ [(onV o, .bool true)])) : LI w wr' a b c s (k + 1) :=
  ⟨h.lay.grown hg (.inr (.inr rfl)), grown_bw h.bw hg (by omega), h.m1.grown hg (fun e => by injection e with e; omega), h.m2.grown hg (fun e => by injection e with e; omega),
    by rw [List.take_add_one, ho, Option.toList_some, ← onE_snoc]; exact hM⟩

/-- The symbols of a class are symbols. -/
theorem cls_sym {l o : List Int} (h : allR l.length (goodC l o) = true) : ∀ y ∈ l, 1 ≤ y ∧ y ≤ 500 := by
  intro y hy
  obtain ⟨j, hj, rfl⟩ := List.getElem_of_mem hy
  have := allR_iff.1 h j hj
  unfold goodC at this
  rw [List.getD_eq_getElem?_getD, List.getElem?_eq_getElem hj] at this
  simp at this
  omega

theorem on_of {s : Snd} (hc : allR s.con.length (goodC s.con s.vow) = true) {o : List Int} (h1 : 1 ≤ o.length) (h4 : o.length ≤ 4) (ha : allB o s.con [] = true) : OnP o := by
  refine ⟨h1, h4, fun y hy => cls_sym hc y ?_⟩
  obtain ⟨j, hj, rfl⟩ := List.getElem_of_mem hy
  have := allR_iff.1 ha j hj
  rw [List.getD_eq_getElem?_getD, List.getElem?_eq_getElem hj] at this
  simpa [hasB] using this

theorem ons_of {s : Snd} (hc : allR s.con.length (goodC s.con s.vow) = true) {k : Nat} (hno : Pre k (fun i => goodO s i = true)) : ∀ o ∈ s.ons.take k, OnP o := by
  intro o ho
  obtain ⟨j, hj, hjo⟩ := mem_take_iff.1 ho
  have this : goodO s j = true := hno j hj
  unfold goodO at this
  rw [getD_of hjo] at this
  simp at this
  exact on_of hc this.1.1.1 this.1.1.2 this.1.2

set_option maxRecDepth 100000 in
set_option maxHeartbeats 1600000 in
theorem read_ons {a b c : Value} {s : Snd} {w : World} (h : SndR w a b c s) (c1 : s.vow.length ≤ 40) (c2 : s.con.length ≤ 40) (c3 : s.ons.length ≤ 40)
    (hb : allR s.vow.length (goodC s.vow []) = true) (hb2 : allR s.con.length (goodC s.con s.vow) = true) : Calls Try.prog 22 #[.agg #[a, b, c]] w (ReadR w s) := by
  have HS := Lib.hid (set_vow h)
  have Hb := Lib.hid hb
  have Hb2 := Lib.hid hb2
  clear hb hb2
  have m1 := h.vow.len_le
  have m2 := h.con.len_le
  have m3 := h.ons.len_le
  obtain ⟨A, ca, rfl, _, _⟩ := h.vow.form
  obtain ⟨B, cb, rfl, _, _⟩ := h.con.form
  obtain ⟨C, cc, rfl, _, _⟩ := h.ons.form
  have hmm := @run_makeMap Try.prog
  have tok1 : True := trivial
  go_enter Try.func22, Try.ntmps22
  go_wp2_with (go_at_call 35; first | (have _t := tok1; (with_reducible refine (val_of (congrArg Value.bool Hb.out) HS.out).mono ?_); rintro e w1 ⟨rfl, hg1, hM1⟩; clear tok1; have hm1 := mid1 hg1 (hM1 Hb.out); have b1 := hm1.lay.b1; have v0 := hm1.lay.v0; have v1 := hm1.lay.v1; clear hg1 hM1) | ((with_reducible refine (val_of (congrArg Value.bool Hb2.out) (set_con h hm1)).mono ?_); rintro e w2 ⟨rfl, hg2, hM2⟩; have hm2 := mid2 hm1 hg2 (hM2 Hb2.out); clear b1 v0 v1 hg2 hM2; have b2 := hm2.lay.b2))
  have hI0 := li0 hm2
  clear hm2 hm1 hmm b2
  go_loopw [50] (fun i wr => ∃ k : Nat, k ≤ s.ons.length ∧ i = .int .i64 k ∧ LI w wr (.slice A s.vow.length ca) (.slice B s.con.length cb) (.slice C s.ons.length cc) s k ∧ Pre k (fun i => goodO s i = true)) (fun i _ => s.ons.length - (intOf i).toNat)
  case atStart => exact ⟨0, Nat.zero_le _, rfl, hI0, Pre.zero⟩
  case round =>
    obtain ⟨k, hk, rfl, hI, hno⟩ := hrel
    clear hI0
    have r0 := hI.lay.r0
    have r1 := hI.lay.r1
    have r2 := hI.lay.r2
    have rf := hI.lay.rf
    have v0 := hI.lay.v0
    have v1 := hI.lay.v1
    have v2 := hI.lay.v2
    have hz := hI.lay.lt
    by_cases hlt : k < s.ons.length
    · obtain ⟨bb, off, u, y, rfl, hy, hur, hc⟩ := (h.ons.after hI.bw).sl hlt
      have hy' := Lib.hid (getD_of (d := []) hy.out)
      have hyl := hur.len_le
      obtain ⟨A', c', rfl, _, _⟩ := hur.form
      have bad : goodO s k = false → Hid (validB s = false) := fun e2 => by
        show validB s = false
        rw [cls_split, allR_false hlt e2]; simp
      by_cases d1 : y.length < 1
      · clear h hur
        go_wp2_with fail
        refine bodyPost_ret (v := .tuple #[.agg #[.map none, .map none, .map none], .bool false]) (by simp [results, Try.results22, go_sem, r0, r1, r2]) rfl (read_out (bad (by unfold goodO; rw [hy'.out, decide_eq_false (by omega : ¬ 1 ≤ y.length)]; rfl)) ?_ rfl)
        exact ((hI.bw.setCell (by simp) _).setCell (by simp) _).setCell (by simp) _
      by_cases d2 : 4 < y.length
      · clear h hur
        go_wp2_with fail
        refine bodyPost_ret (v := .tuple #[.agg #[.map none, .map none, .map none], .bool false]) (by simp [results, Try.results22, go_sem, r0, r1, r2]) rfl (read_out (bad (by unfold goodO; rw [hy'.out, decide_eq_false (by omega : ¬ y.length ≤ 4)]; simp)) ?_ rfl)
        exact ((hI.bw.setCell (by simp) _).setCell (by simp) _).setCell (by simp) _
      have hask : Asks 37 (.pointer (some ⟨w.heap.size + 1 + 1 + 1 + 1 + 1, 0, none⟩)) wr y (fun y => !hasB s.con y) := by
        refine ⟨fun _ _ => by kernel_rfl, ?_⟩
        rintro _ y _ hy1 hy2 wr' ⟨n, rfl⟩
        exact read1_any (SetV.dn (.inr ⟨_, rfl, hI.m2⟩) n) v1 hy1 hy2
      have HC := Lib.hid (containsFunc_any hur hask)
      cases p : allB y s.con [] <;> have Ha := Lib.hid p <;> clear p
      · have Hany : Hid ((y.any fun y => !hasB s.con y) = true) := by
          show (y.any fun y => !hasB s.con y) = true
          rw [any_not_all, Ha.out]; rfl
        clear h hur hask
        go_wp2_with (go_at_call 36; (with_reducible refine (val_of (congrArg Value.bool Hany.out) HC.out).mono ?_); rintro e w3 ⟨rfl, n, rfl⟩)
        refine bodyPost_ret (v := .tuple #[.agg #[.map none, .map none, .map none], .bool false]) (by simp [results, Try.results22, go_sem, r0, r1, r2]) rfl (read_out (bad (by unfold goodO; rw [hy'.out, Ha.out]; simp)) ?_ rfl)
        exact (((hI.bw.drewN n).setCell (by simp) _).setCell (by simp) _).setCell (by simp) _
      · have Hany : Hid ((y.any fun y => !hasB s.con y) = false) := by
          show (y.any fun y => !hasB s.con y) = false
          rw [any_not_all, Ha.out]; rfl
        have hOn := on_of Hb2.out (by omega) (by omega) Ha.out
        have hOns := ons_of Hb2.out hno
        obtain ⟨a0, a1, a2, a3, hon⟩ : ∃ a0 a1 a2 a3, onV y = .agg #[.int .i64 a0, .int .i64 a1, .int .i64 a2, .int .i64 a3] := ⟨_, _, _, _, rfl⟩
        have Hon := Lib.hid hon
        clear hon
        cases p : listedB (s.ons.take k) y <;> have Hl := Lib.hid p <;> clear p
        · obtain ⟨lx, hkx⟩ := keyOn hOn
          rw [Hon.out] at hkx
          have hnew := onE_new hOns hOn Hl.out
          rw [Hon.out] at hnew
          have Hkx := Lib.hid hkx
          have Hnew := Lib.hid hnew
          clear hkx hnew h hask
          go_wp2_with (go_at_call 36; (with_reducible refine (val_of (congrArg Value.bool Hany.out) HC.out).mono ?_); rintro e w3 ⟨rfl, n, rfl⟩)
          refine (val_of Hon.out (key_any (hur.dn n) (by omega) (by omega))).mono ?_
          rintro e w4 ⟨rfl, hb4⟩
          have hI4 := hI.after ((Dr.n wr n).bw.then hb4)
          have v24 := hI4.lay.v2
          have hz4 := hI4.lay.lt
          have hlk := OnsV.look (OnsV.alloc ⟨hOns, _, rfl, hI4.m3⟩ (.cells #[.int .i64 a0, .int .i64 a1, .int .i64 a2, .int .i64 a3] 72)) hOn
          rw [Hon.out, Hl.out] at hlk
          clear hI hur
          go_wp2_with (at_mapUpdate; refine wpList_put_new rfl _ _ _ rfl keyed72 Try.underlying45 (hI4.m3.alloc _) rfl rfl rfl Hkx.out Hnew.out ?_; intro w5 hM5 hg5)
          refine ⟨⟨k + 1, hlt, by go_num, ?_, hno.snoc (by unfold goodO; rw [hy'.out, Ha.out, Hl.out]; simp; omega)⟩, by simp [intOf]; omega⟩
          rw [← Hon.out] at hM5
          exact (hI4.after ((Below.refl _ _).alloc (Nat.le_refl _) _)).store hg5 hy.out hM5
        · clear h hask
          go_wp2_with (go_at_call 36; (with_reducible refine (val_of (congrArg Value.bool Hany.out) HC.out).mono ?_); rintro e w3 ⟨rfl, n, rfl⟩)
          refine (val_of Hon.out (key_any (hur.dn n) (by omega) (by omega))).mono ?_
          rintro e w4 ⟨rfl, hb4⟩
          have hI4 := hI.after ((Dr.n wr n).bw.then hb4)
          have v24 := hI4.lay.v2
          have hz4 := hI4.lay.lt
          have hlk := OnsV.look (OnsV.alloc ⟨hOns, _, rfl, hI4.m3⟩ (.cells #[.int .i64 a0, .int .i64 a1, .int .i64 a2, .int .i64 a3] 72)) hOn
          rw [Hon.out, Hl.out] at hlk
          have hI5 := hI4.after ((Below.refl w4.heap.size w4).alloc (Nat.le_refl _) (.cells #[.int .i64 a0, .int .i64 a1, .int .i64 a2, .int .i64 a3] 72))
          have r04 := hI5.lay.r0
          have r14 := hI5.lay.r1
          have r24 := hI5.lay.r2
          have rf4 := hI5.lay.rf
          clear hI hur r0 r1 r2 rf v0 v1 v2
          go_wp2_with fail
          refine bodyPost_ret (v := .tuple #[.agg #[.map none, .map none, .map none], .bool false]) (by simp [results, Try.results22, go_sem, r04, r14, r24]) rfl (read_out (bad (by unfold goodO; rw [hy'.out, Hl.out]; simp)) ?_ rfl)
          exact (((hI5.bw).setCell (by simp) _).setCell (by simp) _).setCell (by simp) _
    · have Hv : Hid (validB s = true) := by
        show validB s = true
        rw [cls_split, Hb.out, Hb2.out, decide_eq_true c1, decide_eq_true c2, decide_eq_true c3, allR_true fun j hj => hno j (by omega)]; rfl
      go_wp2_with fail
      refine bodyPost_ret (v := .tuple #[.agg #[.map (some (w.heap.size + 1 + 1)), .map (some (w.heap.size + 1 + 1 + 1)), .map (some (w.heap.size + 1 + 1 + 1 + 1))], .bool true]) (by simp [results, Try.results22, go_sem, r0, r1, r2]) rfl ?_
      have e : ∀ i v (W : World), W.grownBy (W.setCell ⟨w.heap.size + 1, i, none⟩ v) (some (w.heap.size + 1)) := fun i v W =>
        ⟨rfl, rfl, rfl, by simp [World.setCell], fun j _ hne => Below.heap_setCell W ⟨w.heap.size + 1, i, none⟩ v j (fun e => hne (by rw [e]))⟩
      refine ⟨((hI.bw.setCell (by simp) _).setCell (by simp) _).setCell (by simp) _, _, _, _, by rw [Hv.out], fun _ => ⟨.inr ⟨_, rfl, ?_⟩, .inr ⟨_, rfl, ?_⟩, ?_, _, rfl, ?_⟩⟩
      · exact ((hI.m1.grown (e _ _ _) (by simp)).grown (e _ _ _) (by simp)).grown (e _ _ _) (by simp)
      · exact ((hI.m2.grown (e _ _ _) (by simp; omega)).grown (e _ _ _) (by simp; omega)).grown (e _ _ _) (by simp; omega)
      · have := ons_of Hb2.out hno
        rwa [List.take_of_length_le (by omega)] at this
      · have := ((hI.m3.grown (e 0 (.map (some (w.heap.size + 1 + 1))) _) (by simp; omega)).grown (e 1 (.map (some (w.heap.size + 1 + 1 + 1))) _) (by simp; omega)).grown (e 2 (.map (some (w.heap.size + 1 + 1 + 1 + 1))) _) (by simp; omega)
        rwa [List.take_of_length_le (by omega)] at this

theorem read_any {a b c : Value} {s : Snd} {w : World} (h : SndR w a b c s) : Calls Try.prog 22 #[.agg #[a, b, c]] w (ReadR w s) := by
  by_cases hbig : 40 < s.vow.length ∨ 40 < s.con.length ∨ 40 < s.ons.length
  · exact read_big h hbig
  cases h1 : allR s.vow.length (goodC s.vow [])
  · exact read_vow h (by omega) (by omega) (by omega) h1
  cases h2 : allR s.con.length (goodC s.con s.vow)
  · exact read_con h (by omega) (by omega) (by omega) h1 h2
  · exact read_ons h (by omega) (by omega) (by omega) h1 h2
end Go.Proofs.Ytockfkmemoggiaa

/- The contract of the program's 'read', further: the way on which the consonants are no class; what stands behind both calls of 'set'. -/
import Derived.Test.YtockfkmemoggiaaS5
namespace Go.Proofs.Ytockfkmemoggiaa
open Go.RowKit Go.Maps
open Pl

/-- What is known behind the first call of 'set', the vowels being a class. -/
structure Mid1 (w w1 : World) (a b c : Value) (s : Snd) : Prop where
  lay : Lay w.heap.size w1 a b c
  bw : Bw w w1
  m1 : Mp Try.prog 3 w1 (w.heap.size + 1 + 1) (setE s.vow)
  m2 : w1.heap[w.heap.size + 1 + 1 + 1]? = some (.map #[] 0)
  m3 : w1.heap[w.heap.size + 1 + 1 + 1 + 1]? = some (.map #[] 0)

theorem mid1 {a b c : Value} {s : Snd} {w w1 : World} (hg : (W6 w a b c).grownBy w1 (some (w.heap.size + 1 + 1))) (hM : Mp Try.prog 3 w1 (w.heap.size + 1 + 1) (setE s.vow)) : Mid1 w w1 a b c s := by
  have hz := W6_size w a b c
  exact ⟨(W6_lay w a b c).grown hg (.inl rfl), grown_bw (W6_bw w a b c) hg (by omega), hM,
    (hg.block _ (by omega) (fun e => by injection e with e; omega)).trans (W6_m2 w a b c), (hg.block _ (by omega) (fun e => by injection e with e; omega)).trans (W6_m3 w a b c)⟩

theorem set_con {a b c : Value} {s : Snd} {w w1 : World} (h : SndR w a b c s) (hm : Mid1 w w1 a b c s) :
    Calls Try.prog 35 #[b, .map (some (w.heap.size + 1 + 1 + 1)), .map (some (w.heap.size + 1 + 1))] w1 fun e w' => e = .returned (.bool (allR s.con.length (goodC s.con s.vow))) ∧
      w1.grownBy w' (some (w.heap.size + 1 + 1 + 1)) ∧ (allR s.con.length (goodC s.con s.vow) = true → Mp Try.prog 3 w' (w.heap.size + 1 + 1 + 1) (setE s.con)) :=
  set_any ((h.con.below hm.bw fun _ hb => hb).weaken fun b hb => by omega) (Mp.of_empty hm.m2) (.inr ⟨_, rfl, hm.m1⟩) (by simp)

/-- What is known behind both calls. -/
structure Mid2 (w w2 : World) (a b c : Value) (s : Snd) : Prop where
  lay : Lay w.heap.size w2 a b c
  bw : Bw w w2
  m1 : Mp Try.prog 3 w2 (w.heap.size + 1 + 1) (setE s.vow)
  m2 : Mp Try.prog 3 w2 (w.heap.size + 1 + 1 + 1) (setE s.con)
  m3 : w2.heap[w.heap.size + 1 + 1 + 1 + 1]? = some (.map #[] 0)

theorem mid2 {a b c : Value} {s : Snd} {w w1 w2 : World} (hm : Mid1 w w1 a b c s) (hg : w1.grownBy w2 (some (w.heap.size + 1 + 1 + 1))) (hM : Mp Try.prog 3 w2 (w.heap.size + 1 + 1 + 1) (setE s.con)) : Mid2 w w2 a b c s := by
  have hz := hm.lay.lt
  exact ⟨hm.lay.grown hg (.inr (.inl rfl)), grown_bw hm.bw hg (by omega), hm.m1.grown hg (fun e => by injection e with e; omega), hM,
    (hg.block _ (by omega) (fun e => by injection e with e; omega)).trans hm.m3⟩

set_option maxRecDepth 100000 in
set_option maxHeartbeats 400000 in
theorem read_con {a b c : Value} {s : Snd} {w : World} (h : SndR w a b c s) (c1 : s.vow.length ≤ 40) (c2 : s.con.length ≤ 40) (c3 : s.ons.length ≤ 40)
    (hb : allR s.vow.length (goodC s.vow []) = true) (hb2 : allR s.con.length (goodC s.con s.vow) = false) : Calls Try.prog 22 #[.agg #[a, b, c]] w (ReadR w s) := by
  have Hv : Hid (validB s = false) := by show validB s = false; rw [cls_split, hb2]; simp
  have HS := Lib.hid (set_vow h)
  have Hb := Lib.hid hb
  have Hb2 := Lib.hid hb2
  clear hb hb2
  have m1 := h.vow.len_le
  have m2 := h.con.len_le
  have m3 := h.ons.len_le
  obtain ⟨A, ca, rfl, _, _⟩ := h.vow.form
  obtain ⟨B, cb, rfl, _, _⟩ := h.con.form
  obtain ⟨C, cc, rfl, _, _⟩ := h.ons.form
  have hmm := @run_makeMap Try.prog
  have tok1 : True := trivial
  go_enter Try.func22, Try.ntmps22
  go_wp2_with (go_at_call 35; first | (have _t := tok1; (with_reducible refine (val_of (congrArg Value.bool Hb.out) HS.out).mono ?_); rintro e w1 ⟨rfl, hg1, hM1⟩; clear tok1; have hm1 := mid1 hg1 (hM1 Hb.out); have b1 := hm1.lay.b1; have v0 := hm1.lay.v0; have v1 := hm1.lay.v1; clear hg1 hM1) | ((with_reducible refine (val_of (congrArg Value.bool Hb2.out) (set_con h hm1)).mono ?_); rintro e w2 ⟨rfl, hg2, _⟩; have hL := hm1.lay.grown hg2 (.inr (.inl rfl)); have r0 := hL.r0; have r1 := hL.r1; have r2 := hL.r2; have rf := hL.rf; clear b1 v0 v1))
  have hB := grown_bw hm1.bw hg2 (by omega)
  refine bodyPost_ret (v := .tuple #[.agg #[.map none, .map none, .map none], .bool false]) (by simp [results, Try.results22, go_sem, r0, r1, r2]) rfl (read_out Hv ?_ rfl)
  exact ((hB.setCell (by simp) _).setCell (by simp) _).setCell (by simp) _
end Go.Proofs.Ytockfkmemoggiaa

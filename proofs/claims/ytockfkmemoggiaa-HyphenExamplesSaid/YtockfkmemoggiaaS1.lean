/- The contracts of the program's sets of symbols: 'set' fills one, a look-up asks it. -/
import Derived.Test.YtockfkmemoggiaaR1
import Derived.Test.YtockfkmemoggiaaMap
namespace Go.Proofs.Ytockfkmemoggiaa
open Go.RowKit Go.Maps
open Pl

theorem keyed3 : Keyed Try.prog 3 := int_keyed Try.underlying3
theorem zero4 (w : World) : (zeroValue 4).run Try.prog w = .ok (.bool false) w := by kernel_rfl

theorem keyInt {y : Int} (h1 : -9223372036854775808 ≤ y) (h2 : y ≤ 9223372036854775807) : keyOf Try.prog 3 (.int .i64 y) = some (.int .i64 y) :=
  keyOf_int_mk Try.underlying3 (WalkArith.wf_i64 (by omega))

/-- The entries of a set of symbols. -/
def setE (S : List Int) : List (Value × Value) := S.map fun a => (.int .i64 a, .bool true)
theorem setE_snoc (S : List Int) (y : Int) : setE S ++ [(.int .i64 y, .bool true)] = setE (S ++ [y]) := by unfold setE; simp

/-- A map value (nil, or a block) that reads as the set S. -/
def SetV (w : World) (v : Value) (S : List Int) : Prop := (v = .map none ∧ S = []) ∨ ∃ b, v = .map (some b) ∧ Mp Try.prog 3 w b (setE S)

theorem SetV.look {w : World} {v : Value} {S : List Int} (h : SetV w v S) {y : Int} (h1 : -9223372036854775808 ≤ y) (h2 : y ≤ 9223372036854775807) :
    (Instr.lookup 44 v (.int .i64 y) false).run Try.prog w = .ok (.bool (hasB S y)) w := by
  rcases h with ⟨rfl, rfl⟩ | ⟨b, rfl, h⟩
  · rw [look_nil keyed3 Try.underlying44 (keyInt h1 h2) (zero4 w)]; simp [hasB]
  · by_cases hm : y ∈ S
    · rw [h.look_some keyed3 Try.underlying44 (keyInt h1 h2) (v := .bool true) (List.mem_map.2 ⟨y, hm, rfl⟩)]
      simp [hasB, hm]
    · rw [h.look_none keyed3 Try.underlying44 (keyInt h1 h2) (zero4 w)]
      · simp [hasB, hm]
      · intro p hp
        obtain ⟨a, ha, rfl⟩ := List.mem_map.1 hp
        intro e; injection e with _ e; subst e; exact hm ha
theorem SetV.after {w w' : World} {v : Value} {S : List Int} (h : SetV w v S) (hb : Bw w w') : SetV w' v S := by
  rcases h with h | ⟨b, rfl, h⟩
  · exact .inl h
  · exact .inr ⟨b, rfl, h.after hb⟩
theorem SetV.dn {w : World} {v : Value} {S : List Int} (h : SetV w v S) (n : Nat) : SetV (w.drewN n) v S := h.after (Dr.n w n).bw
theorem SetV.alloc {w : World} {v : Value} {S : List Int} (h : SetV w v S) (o : Obj) : SetV (w.alloc o) v S := h.after ((Below.refl _ _).alloc (Nat.le_refl _) o)
theorem SetV.grown {w w' : World} {v : Value} {S : List Int} (h : SetV w v S) {b : Nat} (hg : w.grownBy w' (some b)) (hne : v ≠ .map (some b)) : SetV w' v S := by
  rcases h with h | ⟨b2, rfl, h⟩
  · exact .inl h
  · exact .inr ⟨b2, rfl, h.grown hg (fun e => hne (by injection e with e; rw [e]))⟩

theorem grownBy_refl (w : World) (r : Option Nat) : w.grownBy w r := ⟨rfl, rfl, rfl, Nat.le_refl _, fun _ _ _ => rfl⟩

theorem Sl.grownMap {α : Type} {T : Ty α} {w w' : World} {D : Nat → Prop} {v : Value} {xs : List α} (h : Sl T w D v xs) {b : Nat} (hg : w.grownBy w' (some b)) (hD : ∀ c, D c → c < w.heap.size ∧ c ≠ b) : Sl T w' D v xs :=
  h.keep fun c hc => ⟨hc, hg.block c (hD c hc).1 (fun e => (hD c hc).2 (by injection e))⟩

/-- 'set': fills the (empty) map of block b with the symbols of l; no: one is none, or there, or in the other set. -/
theorem set_any {v ov : Value} {l o : List Int} {b : Nat} {w : World} (h : Sl tInt w (fun c => c < b) v l) (hS : Mp Try.prog 3 w b []) (hO : SetV w ov o) (hne : ov ≠ .map (some b)) :
    Calls Try.prog 35 #[v, .map (some b), ov] w fun e w' => e = .returned (.bool (allR l.length (goodC l o))) ∧ w.grownBy w' (some b) ∧ (allR l.length (goodC l o) = true → Mp Try.prog 3 w' b (setE l)) := by
  have hm := h.len_le
  obtain ⟨A, c, rfl, hlc, _⟩ := h.form
  have hlt0 := hS.lt
  go_enter Try.func35, Try.ntmps35
  go_wp2_with fail
  go_loopw [11] (fun i wr => ∃ k : Nat, k ≤ l.length ∧ i = .int .i64 k ∧ w.grownBy wr (some b) ∧ Mp Try.prog 3 wr b (setE (l.take k)) ∧ Pre k (fun i => goodC l o i = true)) (fun i _ => l.length - (intOf i).toNat)
  case atStart => exact ⟨0, Nat.zero_le _, rfl, grownBy_refl _ _, by simpa [setE] using hS, Pre.zero⟩
  case round =>
    obtain ⟨k, hk, rfl, hg, hM, hno⟩ := hrel
    by_cases hlt : k < l.length
    · obtain ⟨bb, off, y, rfl, hy, hy1, hy2, hc⟩ := (h.grownMap hg (fun c hc => ⟨by omega, by omega⟩)).int hlt
      have hy' := Lib.hid (getD_of (d := 0) hy.out)
      have lk1 := SetV.look (.inr ⟨b, rfl, hM⟩) hy1 hy2
      have lk2 := (hO.grown hg hne).look hy1 hy2
      clear h hS hO
      have bad : goodC l o k = false → allR l.length (goodC l o) = false := fun e2 => allR_false hlt e2
      by_cases c1 : y < 1
      · go_wp2
        go_ret
        have e := bad (by unfold goodC; rw [hy'.out, decide_eq_false (by omega : ¬ 1 ≤ y)]; rfl)
        exact ⟨ret_b e.symm, hg, fun h => by rw [e] at h; cases h⟩
      by_cases c2 : 500 < y
      · go_wp2
        go_ret
        have e := bad (by unfold goodC; rw [hy'.out, decide_eq_false (by omega : ¬ y ≤ 500)]; simp)
        exact ⟨ret_b e.symm, hg, fun h => by rw [e] at h; cases h⟩
      cases p : hasB (l.take k) y <;> have Hp := Lib.hid p <;> rw [p] at lk1 <;> clear p
      · cases q : hasB o y <;> have Hq := Lib.hid q <;> rw [q] at lk2 <;> clear q
        · have hnew : ∀ p ∈ setE (l.take k), p.1 ≠ .int .i64 y := by
            intro p hp
            obtain ⟨a, ha, rfl⟩ := List.mem_map.1 hp
            intro e; injection e with _ e; subst e
            have := Hp.out; unfold hasB at this; simp at this; exact this ha
          have Hnew := Lib.hid hnew
          clear hnew
          go_wp2_with (at_mapUpdate; refine wpList_put_new rfl _ _ _ rfl keyed3 Try.underlying44 hM rfl rfl rfl (keyInt hy1 hy2) Hnew.out ?_; intro w1 hM1 hg1)
          refine ⟨⟨k + 1, hlt, by go_num, hg.trans hg1, ?_, hno.snoc (by unfold goodC; rw [hy'.out, Hp.out, Hq.out]; simp; omega)⟩, by simp [intOf]; omega⟩
          rw [List.take_add_one, hy.out, Option.toList_some, ← setE_snoc]
          exact hM1
        · go_wp2
          go_ret
          have e := bad (by unfold goodC; rw [hy'.out, Hq.out]; simp)
          exact ⟨ret_b e.symm, hg, fun h => by rw [e] at h; cases h⟩
      · go_wp2
        go_ret
        have e := bad (by unfold goodC; rw [hy'.out, Hp.out]; simp)
        exact ⟨ret_b e.symm, hg, fun h => by rw [e] at h; cases h⟩
    · go_wp2
      go_ret
      have e := allR_true (n := l.length) (p := goodC l o) fun j hj => hno j (by omega)
      refine ⟨ret_b e.symm, hg, fun _ => ?_⟩
      rwa [List.take_of_length_le (by omega)] at hM
end Go.Proofs.Ytockfkmemoggiaa

/- The contracts of slices.BinarySearchFunc over a list of endings in order, and of its closure. Conditions: the list is in order. -/
import Derived.Test.YtonadloonidmjaaDoorG8
namespace Go.Proofs.YtonadloonidmjaaDoor
open Go.RowKit
open Pl

theorem search1_any {u1 u2 : Value} {a : En} {x : List Int} {w : World} (h1 : Rd tInt w u1 a.1) (h2 : Rd tInt w u2 x) :
    Calls Tryd.prog 28 #[.agg #[u1, .string a.2.1, .int .i64 a.2.2], u2] w fun e w' => e = .returned (.int .i64 (cmpL a.1 x)) ∧ Bw w w' := by
  obtain ⟨A, n, c, rfl, _, _, _⟩ := h1.form'
  obtain ⟨A', n', c', rfl, _, _, _⟩ := h2.form'
  have hb0 := bw_refl_al w (.cells #[.slice A n c, .string a.2.1, .int .i64 a.2.2] 37)
  have HC := Lib.hid (compareWords_any (h1.after hb0) (h2.after hb0))
  clear h1 h2
  go_enter Tryd.func28, Tryd.ntmps28
  go_wp2_with (go_at_call 29; (with_reducible refine HC.out.mono ?_); rintro e w' ⟨rfl, hb⟩)
  go_ret
  exact ⟨rfl, hb0.then hb.bw⟩
theorem enters28 : ∀ (args : Array Value) (W : World), (callFunc 28 args).run Tryd.prog W = .ok (.enter 28 args) W := enters_of Tryd.func28 (by kernel_rfl) rfl

theorem sk_at {g : List En} (hs : SK g) {i j : Nat} {a b : En} (hij : i < j) (ha : g[i]? = some a) (hb : g[j]? = some b) : rE a b := by
  obtain ⟨hi, rfl⟩ := List.getElem?_eq_some_iff.1 ha
  obtain ⟨hj, rfl⟩ := List.getElem?_eq_some_iff.1 hb
  exact List.pairwise_iff_getElem.1 hs i j hi hj hij
theorem rE_word {a b : En} (h : rE a b) : cmpL a.1 b.1 < 0 ∨ a.1 = b.1 := by
  unfold rE ordK at h
  by_cases h0 : cmpL (kyE a).1 (kyE b).1 = 0
  · exact .inr ((totL.zero _ _).1 h0)
  · rw [if_neg h0] at h; exact .inl h
theorem word_lo {g : List En} (hs : SK g) {i j : Nat} {a b : En} {x : List Int} (hij : i ≤ j) (ha : g[i]? = some a) (hb : g[j]? = some b) (h : cmpL b.1 x < 0) : cmpL a.1 x < 0 := by
  rcases Nat.lt_or_eq_of_le hij with h1 | rfl
  · rcases rE_word (sk_at hs h1 ha hb) with h2 | h2
    · exact totL.trans _ _ _ h2 h
    · rw [h2]; exact h
  · rw [ha] at hb; injection hb with hb; subst hb; exact h
/-- Where the search ends. -/
structure BS (g : List En) (x : List Int) (k : Nat) (b : Bool) : Prop where
  le : k ≤ g.length
  lo : ∀ j y, j < k → g[j]? = some y → cmpL y.1 x < 0
  hi : ∀ j y, k ≤ j → g[j]? = some y → 0 ≤ cmpL y.1 x
  found : b = true ↔ ∃ y, g[k]? = some y ∧ y.1 = x
def BSR (g : List En) (x : List Int) (w : World) (e : Ending) (w' : World) : Prop := ∃ (k : Nat) (b : Bool), e = .returned (.tuple #[.int .i64 k, .bool b]) ∧ BS g x k b ∧ Bw w w'
theorem mid_eq {p q : Nat} (hp : p ≤ 9223372036854775807) (hq : q ≤ 9223372036854775807) : wrap64 (IntKind.u64.wrap (wrap64 ((p : Int) + (q : Int))) / 2) = (((p + q) / 2 : Nat) : Int) := by
  have e1 : IntKind.u64.wrap (wrap64 ((p : Int) + (q : Int))) = (p : Int) + q := by
    unfold wrap64
    simp only [IntKind.wrap, IntKind.bits, IntKind.signed]
    simp
    omega
  rw [e1]
  unfold wrap64
  omega
set_option maxRecDepth 100000 in
set_option maxHeartbeats 4000000 in
theorem bsearch_any {v u : Value} {g : List En} {x : List Int} {w : World} (h : Rd tEn w v g) (hx : Rd tInt w u x) (hs : SK g) :
    Calls Tryd.prog 27 #[v, u, .func (.func 28) #[] #[]] w (BSR g x w):= by
  have hm := h.len_le
  obtain ⟨A, c, rfl, hc1, hc2⟩ := h.form
  obtain ⟨A', n', c', rfl, _, _, _⟩ := hx.form'
  go_enter Tryd.func27, Tryd.ntmps27
  go_wp2_with fail
  go_loopw [9, 10] (fun i j wr => ∃ p q : Nat, p ≤ q ∧ q ≤ g.length ∧ i = .int .i64 p ∧ j = .int .i64 q ∧ Bw w wr ∧ (∀ j y, j < p → g[j]? = some y → cmpL y.1 x < 0) ∧ (∀ j y, q ≤ j → g[j]? = some y → ¬ cmpL y.1 x < 0)) (fun i j _ => (intOf j).toNat - (intOf i).toNat)
  case atStart => exact ⟨0, g.length, Nat.zero_le _, Nat.le_refl _, rfl, rfl, Below.refl _ _, fun j y hj => absurd hj (by omega), fun j y hj hy => absurd (List.getElem?_eq_some_iff.1 hy).1 (by omega)⟩
  case round =>
    obtain ⟨p, q, hpq, hq, rfl, rfl, hd, hlo, hhi⟩ := hrel
    have Hlo := Lib.hid hlo
    have Hhi := Lib.hid hhi
    clear hlo hhi
    by_cases hlt : p < q
    · have hmid := mid_eq (p := p) (q := q) (by omega) (by omega)
      obtain ⟨m, hme⟩ : ∃ m, m = (p + q) / 2 := ⟨_, rfl⟩
      have hm1 : p ≤ m := by omega
      have hm2 : m < q := by omega
      rw [← hme] at hmid
      clear hme
      have hml : m < g.length := by omega
      obtain ⟨b, off, y, u1, rfl, hy, hs1, hs2, hu, e0, e1, e2⟩ := (h.after hd).en hml
      go_wp2_with fail
      refine (search1_any (a := y) (x := x) hu.rd (hx.after hd)).mono ?_
      rintro e w1 ⟨rfl, hb1⟩
      have hL : Hid (cmpL y.1 x < 0 → ∀ j z, j < m + 1 → g[j]? = some z → cmpL z.1 x < 0) := fun hz j z hj hgz => word_lo hs (by omega) hgz hy.out hz
      have hH : Hid (¬ cmpL y.1 x < 0 → ∀ j z, m ≤ j → g[j]? = some z → ¬ cmpL z.1 x < 0) := fun hz j z hj hgz hn => hz (word_lo hs hj hy.out hgz hn)
      have hr := cmpL_rng y.1 x
      clear h hx hs hu e0 e1 e2
      generalize cmpL y.1 x = z at *
      by_cases hz : z < 0
      · go_wp2_with fail
        exact ⟨⟨m + 1, q, by omega, hq, by go_num, rfl, hd.then hb1, hL.out hz, fun a b e d => by have := Hhi.out a b e d; omega⟩, by simp [intOf]; omega⟩
      · have hz' : decide (z < 0) = false := decide_eq_false hz
        go_wp2_with fail
        exact ⟨⟨p, m, by omega, by omega, rfl, rfl, hd.then hb1, Hlo.out, fun a b e d => by have := hH.out hz a b e d; omega⟩, by simp [intOf]; omega⟩
    · have hpq' : p = q := by omega
      subst hpq'
      by_cases hp : p < g.length
      · obtain ⟨b, off, y, u1, rfl, hy, hs1, hs2, hu, e0, e1, e2⟩ := (h.after hd).en hp
        go_wp2_with fail
        refine (search1_any (a := y) (x := x) hu.rd (hx.after hd)).mono ?_
        rintro e w1 ⟨rfl, hb1⟩
        have hE : Hid ((cmpL y.1 x == 0) = true ↔ ∃ z, g[p]? = some z ∧ z.1 = x) := by
          show _ ↔ _
          rw [beq_iff_eq]
          constructor
          · intro hz
            exact ⟨y, hy.out, (totL.zero _ _).1 hz⟩
          · rintro ⟨z, hz, rfl⟩
            rw [hy.out] at hz; injection hz with hz; subst hz
            exact totL.self _
        clear h hx hs hu e0 e1 e2
        generalize cmpL y.1 x = z at *
        go_wp2_with fail
        go_ret2
        exact ⟨p, _, rfl, ⟨hq, Hlo.out, fun a b e => by have := Hhi.out a b e; omega, hE.out⟩, hd.then hb1⟩
      · have hE : Hid ((false : Bool) = true ↔ ∃ z, g[p]? = some z ∧ z.1 = x) := by
          show _ ↔ _
          constructor
          · intro h0; cases h0
          · rintro ⟨z, hz, _⟩
            exact absurd (List.getElem?_eq_some_iff.1 hz).1 hp
        clear h hx hs
        go_wp2_with fail
        go_ret2
        exact ⟨p, _, rfl, ⟨hq, Hlo.out, fun a b e => by have := Hhi.out a b e; omega, hE.out⟩, hd⟩
end Go.Proofs.YtonadloonidmjaaDoor

/- The contracts of slices.IndexFunc and slices.ContainsFunc at strings, readings, tests and rules, over a closure that changes nothing that was there. Conditions: what the closure does. -/
import Derived.Test.YthecmbmidoagaaaDoorC1
import Derived.Test.YthecmbmidoagaaaDoorProg
namespace Go.Proofs.YthecmbmidoagaaaDoor
open Go.RowKit
open Pl

/-- What a closure does: at every element of the list, in every later world. -/
def Asks {α : Type} (T : Ty α) (V : List Value → Value) (K : FuncId) (caps : Array Value) (w : World) (l : List α) (p : α → Bool) : Prop :=
  (∀ (args : Array Value) (W : World), (callFunc K args).run Tryd.prog W = .ok (.enter K args) W) ∧
  ∀ (x : α) (cs : List Value) (wr : World), x ∈ l → Bw w wr → T.rep wr (fun b => b < wr.heap.size) cs x → Calls Tryd.prog K (#[V cs] ++ caps) wr fun e w' => e = .returned (.bool (p x)) ∧ Bw wr w'
/-- How a value of one cell, of more cells, is handed over. -/
abbrev vOne (cs : List Value) : Value := cs.headD undef
abbrev vAgg (cs : List Value) : Value := .agg cs.toArray
theorem Asks.later {α : Type} {T : Ty α} {V : List Value → Value} {K : FuncId} {caps : Array Value} {w w' : World} {l : List α} {p : α → Bool} (h : Asks T V K caps w l p) (hb : Bw w w') : Asks T V K caps w' l p :=
  ⟨h.1, fun x cs wr hx hr => h.2 x cs wr hx (hb.then hr)⟩

theorem lookS {D : Nat → Prop} {w : World} {A : Option Addr} {n c k : Nat} {xs : List ByteArray} (h : Sl tStr w D (.slice A n c) xs) (hk : k < xs.length) :
    ∃ b off x, A = some ⟨b, off, none⟩ ∧ Hid (xs[k]? = some x) ∧ tStr.rep w (fun b => b < w.heap.size) [.string x] x ∧ x.size ≤ 9223372036854775807 ∧ w.cell? ⟨b, off + k, none⟩ = some (.string x) := by
  obtain ⟨b, off, x, h1, h2, h3, h4⟩ := h.str hk
  exact ⟨b, off, x, h1, h2, ⟨rfl, by simpa [maxLen] using h3⟩, h3, h4⟩

theorem indexS_any {v : Value} {caps : Array Value} {K : FuncId} {l : List ByteArray} {p : ByteArray → Bool} {w : World} (h : Rd tStr w v l) (hf : Asks tStr vOne K caps w l p) :
    Calls Tryd.prog 51 #[v, .func (.func K) #[] caps] w fun e w' => e = .returned (.int .i64 (idxI p l)) ∧ Bw w w' := by
  have hm := h.len_le
  obtain ⟨A, c, rfl, hlc, _⟩ := h.form
  go_enter Tryd.func51, Tryd.ntmps51
  go_wp2_with fail
  go_loopw [8] (fun i wr => ∃ k : Nat, k ≤ l.length ∧ i = .int .i64 k ∧ Bw w wr ∧ Pre k (fun j => ∀ y, l[j]? = some y → p y = false)) (fun i _ => l.length - (intOf i).toNat)
  case atStart => exact ⟨0, Nat.zero_le _, rfl, Below.refl _ _, Pre.zero⟩
  case round =>
    obtain ⟨k, hk, rfl, hd, hno⟩ := hrel
    by_cases hlt : k < l.length
    · obtain ⟨bb, off, y, rfl, hy, hr, _, hc⟩ := lookS (h.after hd) hlt
      have hcall := hf.2 y _ _ (List.mem_of_getElem? hy.out) hd hr
      rw [show vOne [Value.string y] = .string y from rfl] at hcall
      have hcall := Lib.hid hcall
      have hcf := hf.1 (#[.string y] ++ caps) wr
      clear h hf hr
      cases q : p y <;> have Hq := Lib.hid q <;> clear q
      · go_wp2_with ((with_reducible refine (val_of (congrArg Value.bool Hq.out) hcall.out).mono ?_); rintro e w' ⟨rfl, hb⟩)
        refine ⟨⟨k + 1, hlt, by go_num, hd.then hb, hno.snoc fun z hz => ?_⟩, by simp [intOf]; omega⟩
        rw [hy.out] at hz; injection hz with hz; subst hz; exact Hq.out
      · go_wp2_with ((with_reducible refine (val_of (congrArg Value.bool Hq.out) hcall.out).mono ?_); rintro e w' ⟨rfl, hb⟩)
        go_ret
        exact ⟨ret_i (idxI_some hy.out Hq.out hno).symm, hd.then hb⟩
    · go_wp2_with fail
      go_ret
      exact ⟨ret_i (idxI_none fun j hj => hno j (by omega)).symm, hd⟩

theorem lookR {D : Nat → Prop} {w : World} {A : Option Addr} {n c k : Nat} {xs : List Rdg} (h : Sl tRdg w D (.slice A n c) xs) (hk : k < xs.length) :
    ∃ b off x u, A = some ⟨b, off, none⟩ ∧ Hid (xs[k]? = some x) ∧ tRdg.rep w (fun b => b < w.heap.size) [u] x ∧ w.cell? ⟨b, off + k, none⟩ = some u := by
  obtain ⟨b, off, u, x, h1, h2, h3, h4⟩ := h.sl hk
  exact ⟨b, off, x, u, h1, h2, ⟨u, rfl, h3.rd⟩, h4⟩

theorem indexR_any {v : Value} {caps : Array Value} {K : FuncId} {l : List Rdg} {p : Rdg → Bool} {w : World} (h : Rd tRdg w v l) (hf : Asks tRdg vAgg K caps w l p) :
    Calls Tryd.prog 74 #[v, .func (.func K) #[] caps] w fun e w' => e = .returned (.int .i64 (idxI p l)) ∧ Bw w w' := by
  have hm := h.len_le
  obtain ⟨A, c, rfl, hlc, _⟩ := h.form
  go_enter Tryd.func74, Tryd.ntmps74
  go_wp2_with fail
  go_loopw [8] (fun i wr => ∃ k : Nat, k ≤ l.length ∧ i = .int .i64 k ∧ Bw w wr ∧ Pre k (fun j => ∀ y, l[j]? = some y → p y = false)) (fun i _ => l.length - (intOf i).toNat)
  case atStart => exact ⟨0, Nat.zero_le _, rfl, Below.refl _ _, Pre.zero⟩
  case round =>
    obtain ⟨k, hk, rfl, hd, hno⟩ := hrel
    by_cases hlt : k < l.length
    · obtain ⟨bb, off, y, u, rfl, hy, hr, hc⟩ := lookR (h.after hd) hlt
      have hcall := Lib.hid (hf.2 y _ _ (List.mem_of_getElem? hy.out) hd hr)
      have hcf := hf.1 (#[vAgg [u]] ++ caps) wr
      clear h hf hr
      cases q : p y <;> have Hq := Lib.hid q <;> clear q
      · go_wp2_with ((with_reducible refine (val_of (congrArg Value.bool Hq.out) hcall.out).mono ?_); rintro e w' ⟨rfl, hb⟩)
        refine ⟨⟨k + 1, hlt, by go_num, hd.then hb, hno.snoc fun z hz => ?_⟩, by simp [intOf]; omega⟩
        rw [hy.out] at hz; injection hz with hz; subst hz; exact Hq.out
      · go_wp2_with ((with_reducible refine (val_of (congrArg Value.bool Hq.out) hcall.out).mono ?_); rintro e w' ⟨rfl, hb⟩)
        go_ret
        exact ⟨ret_i (idxI_some hy.out Hq.out hno).symm, hd.then hb⟩
    · go_wp2_with fail
      go_ret
      exact ⟨ret_i (idxI_none fun j hj => hno j (by omega)).symm, hd⟩

theorem indexT_any {v : Value} {caps : Array Value} {K : FuncId} {l : List Tst} {p : Tst → Bool} {w : World} (h : Rd tTst w v l) (hf : Asks tTst vAgg K caps w l p) :
    Calls Tryd.prog 73 #[v, .func (.func K) #[] caps] w fun e w' => e = .returned (.int .i64 (idxI p l)) ∧ Bw w w' := by
  have hm := h.len_le
  obtain ⟨A, c, rfl, hlc, _⟩ := h.form
  go_enter Tryd.func73, Tryd.ntmps73
  go_wp2_with fail
  go_loopw [8] (fun i wr => ∃ k : Nat, k ≤ l.length ∧ i = .int .i64 k ∧ Bw w wr ∧ Pre k (fun j => ∀ y, l[j]? = some y → p y = false)) (fun i _ => l.length - (intOf i).toNat)
  case atStart => exact ⟨0, Nat.zero_le _, rfl, Below.refl _ _, Pre.zero⟩
  case round =>
    obtain ⟨k, hk, rfl, hd, hno⟩ := hrel
    by_cases hlt : k < l.length
    · obtain ⟨bb, off, y, u1, u2, rfl, hy, hi, h1, h2, hc0, hc1, hc2, hc3, hc4, hc5⟩ := (h.after hd).tst hlt
      have hcall := Lib.hid (hf.2 y _ _ (List.mem_of_getElem? hy.out) hd (tst_rep hi h1 h2))
      have hcf := hf.1 (#[vAgg [.int .i64 y.at', .bool y.scan, .bool y.neg, .bool y.care, u1, u2]] ++ caps) wr
      clear h hf hi h1 h2
      cases q : p y <;> have Hq := Lib.hid q <;> clear q
      · go_wp2_with ((with_reducible refine (val_of (congrArg Value.bool Hq.out) hcall.out).mono ?_); rintro e w' ⟨rfl, hb⟩)
        refine ⟨⟨k + 1, hlt, by go_num, hd.then hb, hno.snoc fun z hz => ?_⟩, by simp [intOf]; omega⟩
        rw [hy.out] at hz; injection hz with hz; subst hz; exact Hq.out
      · go_wp2_with ((with_reducible refine (val_of (congrArg Value.bool Hq.out) hcall.out).mono ?_); rintro e w' ⟨rfl, hb⟩)
        go_ret
        exact ⟨ret_i (idxI_some hy.out Hq.out hno).symm, hd.then hb⟩
    · go_wp2_with fail
      go_ret
      exact ⟨ret_i (idxI_none fun j hj => hno j (by omega)).symm, hd⟩

theorem indexU_any {v : Value} {caps : Array Value} {K : FuncId} {l : List Rul} {p : Rul → Bool} {w : World} (h : Rd tRul w v l) (hf : Asks tRul vAgg K caps w l p) :
    Calls Tryd.prog 65 #[v, .func (.func K) #[] caps] w fun e w' => e = .returned (.int .i64 (idxI p l)) ∧ Bw w w' := by
  have hm := h.len_le
  obtain ⟨A, c, rfl, hlc, _⟩ := h.form
  go_enter Tryd.func65, Tryd.ntmps65
  go_wp2_with fail
  go_loopw [8] (fun i wr => ∃ k : Nat, k ≤ l.length ∧ i = .int .i64 k ∧ Bw w wr ∧ Pre k (fun j => ∀ y, l[j]? = some y → p y = false)) (fun i _ => l.length - (intOf i).toNat)
  case atStart => exact ⟨0, Nat.zero_le _, rfl, Below.refl _ _, Pre.zero⟩
  case round =>
    obtain ⟨k, hk, rfl, hd, hno⟩ := hrel
    by_cases hlt : k < l.length
    · obtain ⟨bb, off, y, u1, u2, rfl, hy, hi, h1, h2, hc0, hc1, hc2, hc3⟩ := (h.after hd).rul hlt
      have hcall := Lib.hid (hf.2 y _ _ (List.mem_of_getElem? hy.out) hd (rul_rep hi h1 h2))
      have hcf := hf.1 (#[vAgg [.int .i64 y.op, u1, u2, .bool y.wild]] ++ caps) wr
      clear h hf hi h1 h2
      cases q : p y <;> have Hq := Lib.hid q <;> clear q
      · go_wp2_with ((with_reducible refine (val_of (congrArg Value.bool Hq.out) hcall.out).mono ?_); rintro e w' ⟨rfl, hb⟩)
        refine ⟨⟨k + 1, hlt, by go_num, hd.then hb, hno.snoc fun z hz => ?_⟩, by simp [intOf]; omega⟩
        rw [hy.out] at hz; injection hz with hz; subst hz; exact Hq.out
      · go_wp2_with ((with_reducible refine (val_of (congrArg Value.bool Hq.out) hcall.out).mono ?_); rintro e w' ⟨rfl, hb⟩)
        go_ret
        exact ⟨ret_i (idxI_some hy.out Hq.out hno).symm, hd.then hb⟩
    · go_wp2_with fail
      go_ret
      exact ⟨ret_i (idxI_none fun j hj => hno j (by omega)).symm, hd⟩

theorem containsS_any {v : Value} {caps : Array Value} {K : FuncId} {l : List ByteArray} {p : ByteArray → Bool} {w : World} (h : Rd tStr w v l) (hf : Asks tStr vOne K caps w l p) :
    Calls Tryd.prog 33 #[v, .func (.func K) #[] caps] w fun e w' => e = .returned (.bool (l.any p)) ∧ Bw w w' := by
  go_enter Tryd.func33, Tryd.ntmps33
  have HI := Lib.hid (indexS_any h hf)
  clear h hf
  go_wp2_with ((with_reducible refine HI.out.mono ?_); rintro e w' ⟨rfl, hb⟩)
  go_ret
  exact ⟨ret_b (idxI_any p l), hb⟩
theorem containsR_any {v : Value} {caps : Array Value} {K : FuncId} {l : List Rdg} {p : Rdg → Bool} {w : World} (h : Rd tRdg w v l) (hf : Asks tRdg vAgg K caps w l p) :
    Calls Tryd.prog 60 #[v, .func (.func K) #[] caps] w fun e w' => e = .returned (.bool (l.any p)) ∧ Bw w w' := by
  go_enter Tryd.func60, Tryd.ntmps60
  have HI := Lib.hid (indexR_any h hf)
  clear h hf
  go_wp2_with ((with_reducible refine HI.out.mono ?_); rintro e w' ⟨rfl, hb⟩)
  go_ret
  exact ⟨ret_b (idxI_any p l), hb⟩
theorem containsT_any {v : Value} {caps : Array Value} {K : FuncId} {l : List Tst} {p : Tst → Bool} {w : World} (h : Rd tTst w v l) (hf : Asks tTst vAgg K caps w l p) :
    Calls Tryd.prog 56 #[v, .func (.func K) #[] caps] w fun e w' => e = .returned (.bool (l.any p)) ∧ Bw w w' := by
  go_enter Tryd.func56, Tryd.ntmps56
  have HI := Lib.hid (indexT_any h hf)
  clear h hf
  go_wp2_with ((with_reducible refine HI.out.mono ?_); rintro e w' ⟨rfl, hb⟩)
  go_ret
  exact ⟨ret_b (idxI_any p l), hb⟩
theorem containsU_any {v : Value} {caps : Array Value} {K : FuncId} {l : List Rul} {p : Rul → Bool} {w : World} (h : Rd tRul w v l) (hf : Asks tRul vAgg K caps w l p) :
    Calls Tryd.prog 44 #[v, .func (.func K) #[] caps] w fun e w' => e = .returned (.bool (l.any p)) ∧ Bw w w' := by
  go_enter Tryd.func44, Tryd.ntmps44
  have HI := Lib.hid (indexU_any h hf)
  clear h hf
  go_wp2_with ((with_reducible refine HI.out.mono ?_); rintro e w' ⟨rfl, hb⟩)
  go_ret
  exact ⟨ret_b (idxI_any p l), hb⟩
end Go.Proofs.YthecmbmidoagaaaDoor

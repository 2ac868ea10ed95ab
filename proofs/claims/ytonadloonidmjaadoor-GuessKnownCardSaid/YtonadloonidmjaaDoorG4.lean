/- The contracts of known and of what it asks: slices.IndexFunc and slices.ContainsFunc at known words. Conditions: the library's two tables stand in the world. -/
import Derived.Test.YtonadloonidmjaaDoorG3
namespace Go.Proofs.YtonadloonidmjaaDoor
open Go.RowKit
open Pl

theorem bw_grown {w0 w w' : World} (h : Bw w0 w) {b : Nat} (hg : w.grownBy w' (some b)) (hb : w0.heap.size ≤ b) : Bw w0 w' :=
  ⟨hg.os.trans h.os, hg.tape.trans h.tape, hg.output.trans h.output, Nat.le_trans h.size hg.size, fun k hk => (hg.block k (Nat.lt_of_lt_of_le hk h.size) (fun e => by injection e with e; omega)).trans (h.block k hk)⟩
theorem bw_cell {w w' : World} {p : Addr} {v : Value} (hb : Bw w w') (h : w.cell? p = some v) : w'.cell? p = some v := (hb.cell (World.block_lt_of_cell? w p h)).trans h
theorem bw_refl_al (w : World) (o : Obj) : Bw w (w.alloc o) := (Below.refl _ _).alloc (Nat.le_refl _) o
theorem row_bw {w w' : World} {g : Nat} {o : Obj} (hb : Bw w w') (h : w.heap[g]? = some o) : w'.heap[g]? = some o := (hb.block g (Array.getElem?_eq_some_iff.1 h).1).trans h
theorem row2_0 {w : World} {g : Nat} {a b : Value} {e : TypeId} {fz : Nat × Nat} (h : w.heap[g]? = some (.cells #[a, b] e fz)) : w.cell? ⟨g, 0, none⟩ = some a := by rw [cell_of_row w g 0 _ _ _ h]; rfl
theorem row2_1 {w : World} {g : Nat} {a b : Value} {e : TypeId} {fz : Nat × Nat} (h : w.heap[g]? = some (.cells #[a, b] e fz)) : w.cell? ⟨g, 1, none⟩ = some b := by rw [cell_of_row w g 1 _ _ _ h]; rfl
theorem row3_0 {w : World} {g : Nat} {a b c : Value} {e : TypeId} {fz : Nat × Nat} (h : w.heap[g]? = some (.cells #[a, b, c] e fz)) : w.cell? ⟨g, 0, none⟩ = some a := by rw [cell_of_row w g 0 _ _ _ h]; rfl
theorem row3_1 {w : World} {g : Nat} {a b c : Value} {e : TypeId} {fz : Nat × Nat} (h : w.heap[g]? = some (.cells #[a, b, c] e fz)) : w.cell? ⟨g, 1, none⟩ = some b := by rw [cell_of_row w g 1 _ _ _ h]; rfl
theorem row3_2 {w : World} {g : Nat} {a b c : Value} {e : TypeId} {fz : Nat × Nat} (h : w.heap[g]? = some (.cells #[a, b, c] e fz)) : w.cell? ⟨g, 2, none⟩ = some c := by rw [cell_of_row w g 2 _ _ _ h]; rfl

section
variable {D : Nat → Prop} {w : World} {A : Option Addr} {n c k : Nat}
theorem Sl.en {xs : List En} (h : Sl tEn w D (.slice A n c) xs) (hk : k < xs.length) :
    ∃ b off x u, A = some ⟨b, off, none⟩ ∧ Hid (xs[k]? = some x) ∧ x.2.1.size ≤ 9223372036854775807 ∧ inI64 x.2.2 ∧ Sl tInt w D u x.1 ∧ w.cell? ⟨b, off + k * 3, none⟩ = some u ∧ w.cell? ⟨b, off + k * 3 + 1, none⟩ = some (.string x.2.1) ∧ w.cell? ⟨b, off + k * 3 + 2, none⟩ = some (.int .i64 x.2.2) := by
  obtain ⟨b, off, x, cs, h1, h2, _, h3, h4⟩ := h.elem hk
  obtain ⟨u, rfl, h5, h6, h7⟩ := en_rep h3
  exact ⟨b, off, x, u, h1, h2, by simpa [maxLen] using h6, h7, h5, h4 0 _ rfl, h4 1 _ rfl, h4 2 _ rfl⟩
end

/-- What a closure does: at every element of the list, in every later world. -/
def Asks {α : Type} (T : Ty α) (V : List Value → Value) (K : FuncId) (caps : Array Value) (w : World) (l : List α) (p : α → Bool) : Prop :=
  (∀ (args : Array Value) (W : World), (callFunc K args).run Tryd.prog W = .ok (.enter K args) W) ∧
  ∀ (x : α) (cs : List Value) (wr : World), x ∈ l → Bw w wr → T.rep wr (fun b => b < wr.heap.size) cs x → Calls Tryd.prog K (#[V cs] ++ caps) wr fun e w' => e = .returned (.bool (p x)) ∧ Bw wr w'
abbrev vAgg (cs : List Value) : Value := .agg cs.toArray

set_option maxRecDepth 100000 in
theorem indexK_any {v : Value} {caps : Array Value} {K : FuncId} {l : List Kn} {p : Kn → Bool} {w : World} (h : Rd tKn w v l) (hf : Asks tKn vAgg K caps w l p) :
    Calls Tryd.prog 58 #[v, .func (.func K) #[] caps] w fun e w' => e = .returned (.int .i64 (idxI p l)) ∧ Bw w w' := by
  have hm := h.len_le
  obtain ⟨A, c, rfl, hlc, _⟩ := h.form
  go_enter Tryd.func58, Tryd.ntmps58
  go_wp2_with fail
  go_loopw [8] (fun i wr => ∃ k : Nat, k ≤ l.length ∧ i = .int .i64 k ∧ Bw w wr ∧ Pre k (fun j => ∀ y, l[j]? = some y → p y = false)) (fun i _ => l.length - (intOf i).toNat)
  case atStart => exact ⟨0, Nat.zero_le _, rfl, Below.refl _ _, Pre.zero⟩
  case round =>
    obtain ⟨k, hk, rfl, hd, hno⟩ := hrel
    by_cases hlt : k < l.length
    · obtain ⟨bb, off, y, u, rfl, hy, hs, hu, hc0, hc1⟩ := (h.after hd).kn hlt
      have hcall := Lib.hid (hf.2 y _ _ (List.mem_of_getElem? hy.out) hd (kn_mk hu (by simpa [maxLen] using hs)))
      have hcf := hf.1 (#[vAgg [u, .string y.2]] ++ caps) wr
      clear h hf hs hu
      cases q : p y <;> have Hq := Lib.hid q <;> clear q
      · go_wp2_with ((with_reducible refine (val_of (congrArg Value.bool Hq.out) hcall.out).mono ?_); rintro e w' ⟨rfl, hb⟩)
        refine ⟨⟨k + 1, hlt, by go_num, hd.then hb, hno.snoc fun z hz => ?_⟩, by simp [intOf]; omega⟩
        rw [hy.out] at hz; injection hz with hz; subst hz; exact Hq.out
      · go_wp2_with ((with_reducible refine (val_of (congrArg Value.bool Hq.out) hcall.out).mono ?_); rintro e w' ⟨rfl, hb⟩)
        go_ret
        exact ⟨ret_i (idxI_some hy.out Hq.out hno).symm, hd.then hb⟩
    · go_wp2_with fail
      go_ret
      exact ⟨ret_i (idxI_none fun j hj => hno j (by omega)).symm, hd⟩

theorem containsK_any {v : Value} {caps : Array Value} {K : FuncId} {l : List Kn} {p : Kn → Bool} {w : World} (h : Rd tKn w v l) (hf : Asks tKn vAgg K caps w l p) :
    Calls Tryd.prog 43 #[v, .func (.func K) #[] caps] w fun e w' => e = .returned (.bool (l.any p)) ∧ Bw w w' := by
  go_enter Tryd.func43, Tryd.ntmps43
  have HI := Lib.hid (indexK_any h hf)
  clear h hf
  go_wp2_with (go_at_call 58; (with_reducible refine HI.out.mono ?_); rintro e w' ⟨rfl, hb⟩)
  go_ret
  exact ⟨ret_b (idxI_any p l), hb⟩

def badK (k : Kn) : Bool := !knB k
theorem enters44 : ∀ (args : Array Value) (W : World), (callFunc 44 args).run Tryd.prog W = .ok (.enter 44 args) W := enters_of Tryd.func44 (by kernel_rfl) rfl
theorem badK_any {u : Value} {k : Kn} {w : World} (hT : Tb w) (h : Rd tInt w u k.1) : Calls Tryd.prog 44 #[.agg #[u, .string k.2]] w fun e w' => e = .returned (.bool (badK k)) ∧ Bw w w' := by
  obtain ⟨A, n, c, rfl, _, _, _⟩ := h.form'
  go_enter Tryd.func44, Tryd.ntmps44
  have hT' := hT.after (bw_refl_al w (.cells #[.slice A n c, .string k.2] 27))
  have h' := h.after (bw_refl_al w (.cells #[.slice A n c, .string k.2] 27))
  have HW := Lib.hid (isWord_any h')
  have hb0 := bw_refl_al w (.cells #[.slice A n c, .string k.2] 27)
  have row := at_new (w := w) (o := .cells #[.slice A n c, .string k.2] 27) rfl
  obtain ⟨w0, hw0⟩ : ∃ w0, w0 = w.alloc (.cells #[.slice A n c, .string k.2] 27) := ⟨_, rfl⟩
  go_wp2_with fail
  rw [← hw0] at hT' HW hb0 row ⊢
  have c0 := row2_0 row
  have c1 := row2_1 row
  clear h h' hT hw0 row
  cases hq : wordB k.1
  · have e : Hid (badK k = true) := by unfold badK knB; rw [hq]; rfl
    rw [hq] at HW
    clear hq
    (with_reducible refine HW.out.mono ?_)
    rintro e w' ⟨rfl, n, rfl⟩
    go_wp2_with fail
    go_ret
    exact ⟨ret_b e.out.symm, hb0.then (Dr.n _ _).bw⟩
  · have e : Hid (badK k = !tagsB k.2) := by unfold badK knB; rw [hq]; rfl
    rw [hq] at HW
    clear hq
    (with_reducible refine HW.out.mono ?_)
    rintro e w' ⟨rfl, n, rfl⟩
    go_wp2_with (go_at_call 45; (with_reducible refine (isTags_any (hT'.after (Dr.n _ _).bw)).mono ?_); rintro e w' ⟨rfl, hb⟩)
    go_ret
    exact ⟨ret_b e.out.symm, hb0.then ((Dr.n _ _).bw.then hb)⟩

theorem known_any {v : Value} {l : List Kn} {w : World} (hT : Tb w) (h : Rd tKn w v l) : Calls Tryd.prog 21 #[v] w fun e w' => e = .returned (.bool (knownB l)) ∧ Bw w w' := by
  go_enter Tryd.func21, Tryd.ntmps21
  have HC := Lib.hid (containsK_any (K := 44) (caps := #[]) (p := badK) h ⟨enters44, fun x cs wr _ hb hr => by
    obtain ⟨u, rfl, h1, _⟩ := kn_rep hr
    exact badK_any (hT.after hb) h1⟩)
  have e : Hid (knownB l = !l.any badK) := by
    unfold knownB
    show _ = _
    rw [List.not_any_eq_all_not]
    congr 1
    funext s
    unfold badK
    rw [Bool.not_not]
  rw [e.out]
  clear h e
  go_wp2_with (go_at_call 43; (with_reducible refine HC.out.mono ?_); rintro e w' ⟨rfl, hb⟩)
  go_ret
  exact ⟨rfl, hb⟩
end Go.Proofs.YtonadloonidmjaaDoor

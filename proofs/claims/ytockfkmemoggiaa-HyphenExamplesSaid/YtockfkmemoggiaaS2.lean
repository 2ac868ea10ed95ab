/- The contracts of slices.IndexFunc and slices.ContainsFunc at a closure that only reads, and of the program's 'word'. -/
import Derived.Test.YtockfkmemoggiaaS1
namespace Go.Proofs.Ytockfkmemoggiaa
open Go.RowKit Go.Maps
open Pl

/-- What a closure does that only reads: at every element of the list, in every world that a draw leads to. -/
def Asks (K : FuncId) (cap : Value) (w : World) (l : List Int) (p : Int → Bool) : Prop :=
  (∀ (args : Array Value) (W : World), (callFunc K args).run Try.prog W = .ok (.enter K args) W) ∧
  ∀ (k : Nat) (y : Int), l[k]? = some y → -9223372036854775808 ≤ y → y ≤ 9223372036854775807 → ∀ wr, Dr w wr → Calls Try.prog K #[.int .i64 y, cap] wr fun e w' => e = .returned (.bool (p y)) ∧ Dr wr w'

theorem indexFunc_any {v cap : Value} {K : FuncId} {l : List Int} {p : Int → Bool} {w : World} (h : Rd tInt w v l) (hf : Asks K cap w l p) :
    Calls Try.prog 44 #[v, .func (.func K) #[] #[cap]] w fun e w' => e = .returned (.int .i64 (idxI p l)) ∧ Dr w w' := by
  have hm := h.len_le
  obtain ⟨A, c, rfl, hlc, _⟩ := h.form
  go_enter Try.func44, Try.ntmps44
  go_wp2_with fail
  go_loopw [8] (fun i wr => ∃ k : Nat, k ≤ l.length ∧ i = .int .i64 k ∧ Dr w wr ∧ Pre k (fun j => ∀ y, l[j]? = some y → p y = false)) (fun i _ => l.length - (intOf i).toNat)
  case atStart => exact ⟨0, Nat.zero_le _, rfl, Dr.refl _, Pre.zero⟩
  case round =>
    obtain ⟨k, hk, rfl, hd, hno⟩ := hrel
    by_cases hlt : k < l.length
    · obtain ⟨bb, off, y, rfl, hy, hy1, hy2, hc⟩ := (h.drd hd).int hlt
      have hcall := Lib.hid (hf.2 k y hy.out hy1 hy2 _ hd)
      have hcf := hf.1 #[.int .i64 y, cap] wr
      clear h hf
      cases q : p y <;> have Hq := Lib.hid q <;> clear q
      · go_wp2_with ((with_reducible refine (val_of (congrArg Value.bool Hq.out) hcall.out).mono ?_); rintro e w' ⟨rfl, n, rfl⟩)
        refine ⟨⟨k + 1, hlt, by go_num, hd.drewN _, hno.snoc fun z hz => ?_⟩, by simp [intOf]; omega⟩
        rw [hy.out] at hz; injection hz with hz; subst hz; exact Hq.out
      · go_wp2_with ((with_reducible refine (val_of (congrArg Value.bool Hq.out) hcall.out).mono ?_); rintro e w' ⟨rfl, n, rfl⟩)
        go_ret
        exact ⟨ret_i (idxI_some hy.out Hq.out hno).symm, hd.drewN _⟩
    · go_wp2_with fail
      go_ret
      exact ⟨ret_i (idxI_none fun j hj => hno j (by omega)).symm, hd⟩

theorem containsFunc_any {v cap : Value} {K : FuncId} {l : List Int} {p : Int → Bool} {w : World} (h : Rd tInt w v l) (hf : Asks K cap w l p) :
    Calls Try.prog 36 #[v, .func (.func K) #[] #[cap]] w fun e w' => e = .returned (.bool (l.any p)) ∧ Dr w w' := by
  go_enter Try.func36, Try.ntmps36
  have HI := Lib.hid (indexFunc_any h hf)
  clear h hf
  go_wp2_with (go_at_call 44; (with_reducible refine HI.out.mono ?_); rintro e w' ⟨rfl, n, rfl⟩)
  go_ret
  exact ⟨ret_b (idxI_any p l), Dr.n _ _⟩

/-- The sets of the program's sounds, in the cells of a box. -/
structure SetsR (w : World) (a b : Value) (s : Snd) : Prop where
  vow : SetV w a s.vow
  con : SetV w b s.con

theorem word1_any {a b : Value} {g : Nat} {s : Snd} {y : Int} {w : World} (h : SetsR w a b s) (h0 : w.cell? ⟨g, 0, none⟩ = some a) (h1 : w.cell? ⟨g, 1, none⟩ = some b)
    (hy1 : -9223372036854775808 ≤ y) (hy2 : y ≤ 9223372036854775807) :
    Calls Try.prog 39 #[.int .i64 y, .pointer (some ⟨g, 0, none⟩)] w fun e w' => e = .returned (.bool (!hasB s.vow y && !hasB s.con y)) ∧ Dr w w' := by
  have lk1 := h.vow.look hy1 hy2
  have lk2 := h.con.look hy1 hy2
  clear h
  cases p : hasB s.vow y <;> have Hp := Lib.hid p <;> rw [p] at lk1 <;> clear p
  · cases q : hasB s.con y <;> have Hq := Lib.hid q <;> rw [q] at lk2 <;> clear q
    all_goals
      go_enter Try.func39, Try.ntmps39
      go_wp2
      go_ret
      exact ⟨ret_b (by rfl), Dr.refl _⟩
  · go_enter Try.func39, Try.ntmps39
    go_wp2
    go_ret
    exact ⟨ret_b (by rfl), Dr.refl _⟩

theorem not_any_all (x la lb : List Int) : (!x.any fun y => !hasB la y && !hasB lb y) = allB x la lb := by
  rw [Bool.eq_iff_iff]
  unfold allB
  rw [allR_iff]
  simp only [Bool.not_eq_true', List.any_eq_false, Bool.and_eq_true, Bool.or_eq_true]
  constructor
  · intro h j hj
    have := h _ (List.getElem_mem hj)
    rw [List.getD_eq_getElem?_getD, List.getElem?_eq_getElem hj]
    simp only [Option.getD_some]
    cases h1 : hasB la x[j] <;> cases h2 : hasB lb x[j] <;> simp_all
  · intro h y hy
    obtain ⟨j, hj, rfl⟩ := List.getElem_of_mem hy
    have := h j hj
    rw [List.getD_eq_getElem?_getD, List.getElem?_eq_getElem hj] at this
    simp only [Option.getD_some] at this
    rcases this with h1 | h1 <;> simp [h1]

theorem pword_any {a b c v : Value} {s : Snd} {x : List Int} {w : World} (h : SetsR w a b s) (hx : Rd tInt w v x) :
    Calls Try.prog 23 #[.agg #[a, b, c], v] w fun e w' => e = .returned (.bool (wordB s x)) ∧ Bw w w' := by
  have hm := hx.len_le
  obtain ⟨A, cc, rfl, hlc, _⟩ := hx.form
  have h1 := h.vow.alloc (.cells #[a, b, c] 47)
  have h2 := h.con.alloc (.cells #[a, b, c] 47)
  have h3 := hx.alloc (.cells #[a, b, c] 47)
  have hB : Bw w (w.alloc (.cells #[a, b, c] 47)) := (Below.refl _ _).alloc (Nat.le_refl _) _
  by_cases hl : x.length ≤ 200
  · have hl' : (x.length : Int) ≤ 200 := by omega
    have hf : Asks 39 (.pointer (some ⟨w.heap.size, 0, none⟩)) (w.alloc (.cells #[a, b, c] 47)) x (fun y => !hasB s.vow y && !hasB s.con y) := by
      refine ⟨fun _ _ => by kernel_rfl, ?_⟩
      rintro k y hy hy1 hy2 wr ⟨n, rfl⟩
      exact word1_any ⟨h1.dn n, h2.dn n⟩ (by go_simp) (by go_simp) hy1 hy2
    have HC := Lib.hid (containsFunc_any h3 hf)
    clear h1 h2 h3 hf h hx
    go_enter Try.func23, Try.ntmps23
    go_wp2_with (go_at_call 36; (with_reducible refine HC.out.mono ?_); rintro e w' ⟨rfl, n, rfl⟩)
    go_ret
    exact ⟨ret_b (by unfold wordB; rw [decide_eq_true hl, not_any_all]; rfl), hB.drewN _⟩
  · have hl' : ¬ (x.length : Int) ≤ 200 := by omega
    clear h1 h2 h3 h hx
    go_enter Try.func23, Try.ntmps23
    go_wp2_with fail
    go_ret
    exact ⟨ret_b (by unfold wordB; rw [decide_eq_false hl]; rfl), hB⟩
end Go.Proofs.Ytockfkmemoggiaa

/- The contracts of the tests of words, tags and known words: isWord, isTags, known. Conditions: the library's two tables stand in the world. -/
import Derived.Test.YtonadloonidmjaaDoorG2
import Derived.Test.YtonadloonidmjaaDoorS2
import Derived.Test.YtonadloonidmjaaDoorH1
namespace Go.Proofs.YtonadloonidmjaaDoor
open Go.RowKit
open Pl

/-- What a closure of ints does that only reads: in every world. -/
def AskI (K : FuncId) (p : Int → Bool) : Prop :=
  (∀ (args : Array Value) (W : World), (callFunc K args).run Tryd.prog W = .ok (.enter K args) W) ∧
  ∀ (y : Int) (W : World), Calls Tryd.prog K #[.int .i64 y] W fun e w' => e = .returned (.bool (p y)) ∧ Dr W w'

set_option maxRecDepth 100000 in
theorem indexI_any {v : Value} {K : FuncId} {l : List Int} {p : Int → Bool} {w : World} (h : Rd tInt w v l) (hf : AskI K p) :
    Calls Tryd.prog 70 #[v, .func (.func K) #[] #[]] w fun e w' => e = .returned (.int .i64 (idxI p l)) ∧ Dr w w' := by
  have hm := h.len_le
  obtain ⟨A, c, rfl, hlc, _⟩ := h.form
  go_enter Tryd.func70, Tryd.ntmps70
  go_wp2_with fail
  go_loopw [8] (fun i wr => ∃ k : Nat, k ≤ l.length ∧ i = .int .i64 k ∧ Dr w wr ∧ Pre k (fun j => ∀ y, l[j]? = some y → p y = false)) (fun i _ => l.length - (intOf i).toNat)
  case atStart => exact ⟨0, Nat.zero_le _, rfl, Dr.refl _, Pre.zero⟩
  case round =>
    obtain ⟨k, hk, rfl, hd, hno⟩ := hrel
    by_cases hlt : k < l.length
    · obtain ⟨bb, off, y, rfl, hy, hy1, hy2, hc⟩ := (h.drd hd).int hlt
      have hcall := Lib.hid (hf.2 y wr)
      have hcf := hf.1 #[.int .i64 y] wr
      clear h hf
      cases q : p y <;> have Hq := Lib.hid q <;> clear q
      · go_wp2_with fail
        refine (val_of (congrArg Value.bool Hq.out) hcall.out).mono ?_
        rintro e w' ⟨rfl, n, rfl⟩
        go_wp2_with fail
        refine ⟨⟨k + 1, hlt, by go_num, hd.drewN _, hno.snoc fun z hz => ?_⟩, by simp [intOf]; omega⟩
        rw [hy.out] at hz; injection hz with hz; subst hz; exact Hq.out
      · go_wp2_with fail
        refine (val_of (congrArg Value.bool Hq.out) hcall.out).mono ?_
        rintro e w' ⟨rfl, n, rfl⟩
        go_wp2_with fail
        go_ret
        exact ⟨ret_i (idxI_some hy.out Hq.out hno).symm, hd.drewN _⟩
    · go_wp2_with fail
      go_ret
      exact ⟨ret_i (idxI_none fun j hj => hno j (by omega)).symm, hd⟩

theorem containsI_any {v : Value} {K : FuncId} {l : List Int} {p : Int → Bool} {w : World} (h : Rd tInt w v l) (hf : AskI K p) :
    Calls Tryd.prog 49 #[v, .func (.func K) #[] #[]] w fun e w' => e = .returned (.bool (l.any p)) ∧ Dr w w' := by
  go_enter Tryd.func49, Tryd.ntmps49
  have HI := Lib.hid (indexI_any h hf)
  clear h hf
  go_wp2_with (go_at_call 70; (with_reducible refine HI.out.mono ?_); rintro e w' ⟨rfl, n, rfl⟩)
  go_ret
  exact ⟨ret_b (idxI_any p l), Dr.n _ _⟩

def badS (s : Int) : Bool := decide (s < 1) || decide (500 < s)
theorem badS_lo {y : Int} (h : y < 1) : badS y = true := by unfold badS; rw [decide_eq_true h]; rfl
theorem badS_hi {y : Int} (h : 500 < y) : badS y = true := by unfold badS; rw [decide_eq_true h, Bool.or_true]
theorem badS_no {y : Int} (h1 : ¬ y < 1) (h2 : ¬ 500 < y) : badS y = false := by unfold badS; rw [decide_eq_false h1, decide_eq_false h2]; rfl
theorem enters50 : ∀ (args : Array Value) (W : World), (callFunc 50 args).run Tryd.prog W = .ok (.enter 50 args) W := enters_of Tryd.func50 (by kernel_rfl) rfl
theorem badS_any : AskI 50 badS := ⟨enters50, fun y W => by
  by_cases h1 : y < 1
  · have e := Lib.hid (badS_lo h1)
    rw [e.out]
    go_enter Tryd.func50, Tryd.ntmps50
    go_wp2
    go_ret
    exact ⟨rfl, Dr.refl _⟩
  · by_cases h2 : 500 < y
    · have e := Lib.hid (badS_hi h2)
      rw [e.out]
      go_enter Tryd.func50, Tryd.ntmps50
      go_wp2
      go_ret
      exact ⟨rfl, Dr.refl _⟩
    · have e := Lib.hid (badS_no h1 h2)
      rw [e.out]
      go_enter Tryd.func50, Tryd.ntmps50
      go_wp2
      go_ret
      exact ⟨rfl, Dr.refl _⟩⟩

theorem wordB_of {x : List Int} (h : x.length ≤ 200) : wordB x = !x.any badS := by
  unfold wordB
  rw [decide_eq_true h, Bool.true_and, List.not_any_eq_all_not]
  congr 1
  funext s
  by_cases h1 : s < 1
  · rw [badS_lo h1, decide_eq_false (show ¬ 1 ≤ s by omega)]; rfl
  · by_cases h2 : 500 < s
    · rw [badS_hi h2, decide_eq_false (show ¬ s ≤ 500 by omega), Bool.and_false]; rfl
    · rw [badS_no h1 h2, decide_eq_true (show 1 ≤ s by omega), decide_eq_true (show s ≤ 500 by omega)]; rfl
theorem isWord_any {v : Value} {x : List Int} {w : World} (h : Rd tInt w v x) :
    Calls Tryd.prog 26 #[v] w fun e w' => e = .returned (.bool (wordB x)) ∧ Dr w w' := by
  have hm := h.len_le
  obtain ⟨A, c, rfl, _, _⟩ := h.form
  by_cases hl : x.length ≤ 200
  · have HC := Lib.hid (containsI_any h badS_any)
    have e := Lib.hid (wordB_of hl)
    rw [e.out]
    have hl' : ((x.length : Int) ≤ 200) := by omega
    clear h hl
    go_enter Tryd.func26, Tryd.ntmps26
    go_wp2_with (go_at_call 49; (with_reducible refine HC.out.mono ?_); rintro e w' ⟨rfl, n, rfl⟩)
    go_ret
    exact ⟨rfl, Dr.n _ _⟩
  · have e : Hid (wordB x = false) := by unfold wordB; rw [decide_eq_false hl]; rfl
    rw [e.out]
    go_enter Tryd.func26, Tryd.ntmps26
    go_wp2_with fail
    go_ret
    exact ⟨rfl, Dr.refl _⟩

/-- The reference's. -/
theorem rword_any {v : Value} {x : List Int} {w : World} (h : Rd tInt w v x) :
    Calls Tryd.prog 41 #[v] w fun e w' => e = .returned (.bool (wordB x)) ∧ Dr w w' := by
  have hm := h.len_le
  obtain ⟨A, c, rfl, _, _⟩ := h.form
  by_cases hl : x.length ≤ 200
  · have e := Lib.hid (wordB_of hl)
    rw [e.out]
    have hl' : ((x.length : Int) ≤ 200) := by omega
    clear hl
    go_enter Tryd.func41, Tryd.ntmps41
    go_wp2
    go_loopw [3] (fun i wr => ∃ k : Nat, k ≤ x.length ∧ i = .int .i64 k ∧ Dr w wr ∧ Pre k (fun j => ∀ y, x[j]? = some y → badS y = false)) (fun i _ => x.length - (intOf i).toNat)
    case atStart => exact ⟨0, Nat.zero_le _, rfl, Dr.refl _, Pre.zero⟩
    case round =>
      obtain ⟨k, hk, rfl, hd, hno⟩ := hrel
      by_cases hlt : k < x.length
      · obtain ⟨bb, off, y, rfl, hy, hy1, hy2, hc⟩ := (h.drd hd).int hlt
        clear h
        by_cases h1 : y < 1
        · go_wp2
          go_ret
          refine ⟨ret_b ?_, hd⟩
          have : x.any badS = true := List.any_eq_true.2 ⟨y, List.mem_of_getElem? hy.out, badS_lo (by omega)⟩
          rw [this]; rfl
        · by_cases h2 : 500 < y
          · go_wp2
            go_ret
            refine ⟨ret_b ?_, hd⟩
            have : x.any badS = true := List.any_eq_true.2 ⟨y, List.mem_of_getElem? hy.out, badS_hi (by omega)⟩
            rw [this]; rfl
          · go_wp2
            refine ⟨⟨k + 1, hlt, by go_num, hd, hno.snoc fun z hz => ?_⟩, by simp [intOf]; omega⟩
            rw [hy.out] at hz; injection hz with hz; subst hz
            exact badS_no (by omega) (by omega)
      · go_wp2
        go_ret
        refine ⟨ret_b ?_, hd⟩
        have : x.any badS = false := by
          rw [List.any_eq_false]
          intro y hy
          obtain ⟨j, hj⟩ := List.mem_iff_getElem?.1 hy
          have := hno j (by have := (List.getElem?_eq_some_iff.1 hj).1; omega) y hj
          rw [this]; simp
        rw [this]; rfl
  · have e : Hid (wordB x = false) := by unfold wordB; rw [decide_eq_false hl]; rfl
    rw [e.out]
    go_enter Tryd.func41, Tryd.ntmps41
    go_wp2_with fail
    go_ret
    exact ⟨rfl, Dr.refl _⟩

theorem spE_zero (s : ByteArray) : decide (spE s = 0) = (decide (s.size ≤ 16384) && okS s) := by
  unfold spE
  by_cases h : 16384 < s.size
  · rw [if_pos h, decide_eq_false (show ¬ s.size ≤ 16384 by omega)]; rfl
  · rw [if_neg h, decide_eq_true (show s.size ≤ 16384 by omega)]
    cases okS s <;> rfl
theorem bytes_empty {s : ByteArray} : s = ⟨#[]⟩ ↔ s.size = 0 := by
  constructor
  · rintro rfl; rfl
  · intro h
    cases s with | mk d => 
    have : d.size = 0 := h
    rw [Array.eq_empty_of_size_eq_zero this]
theorem isTags_any {s : ByteArray} {w : World} (hT : Tb w) : Calls Tryd.prog 45 #[.string s] w fun e w' => e = .returned (.bool (tagsB s)) ∧ Bw w w' := by
  have HS := Lib.hid (split_any (s := s) hT)
  have hz := Lib.hid (spE_zero s)
  by_cases h0 : s.size = 0
  · have hs := bytes_empty.2 h0
    have e : Hid (tagsB s = false) := by unfold tagsB; rw [decide_eq_false (by omega)]; rfl
    rw [e.out]
    subst hs
    clear h0 hT
    go_enter Tryd.func45, Tryd.ntmps45
    go_wp2_with (go_at_call 59; (with_reducible refine HS.out.mono ?_); rintro e w' ⟨⟨v, a, rfl⟩, hb⟩)
    go_ret
    exact ⟨rfl, hb⟩
  · have hs : ¬ s = ⟨#[]⟩ := fun e => h0 (bytes_empty.1 e)
    have e : Hid (tagsB s = decide (spE s = 0)) := by
      unfold tagsB
      show _ = _
      rw [hz.out, decide_eq_true (show 1 ≤ s.size by omega), Bool.true_and]
    rw [e.out]
    have hne : ¬ s.toList = [] := fun e => hs (toList_inj (e.trans (by rw [Lib.toList_data])))
    clear h0 hs hT hz e
    by_cases hq : spE s = 0
    · rw [decide_eq_true hq]
      rw [hq] at HS
      go_enter Tryd.func45, Tryd.ntmps45
      go_wp2_with (go_at_call 59; (with_reducible refine HS.out.mono ?_); rintro e w' ⟨⟨v, a, rfl⟩, hb⟩)
      go_ret
      exact ⟨ret_b (by simp [hne]), hb⟩
    · rw [decide_eq_false hq]
      go_enter Tryd.func45, Tryd.ntmps45
      go_wp2_with (go_at_call 59; (with_reducible refine HS.out.mono ?_); rintro e w' ⟨⟨v, a, rfl⟩, hb⟩)
      go_ret
      exact ⟨ret_b (by simp [hq]), hb⟩
end Go.Proofs.YtonadloonidmjaaDoor

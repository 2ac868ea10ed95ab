/- A region that draws its order, shown by one invariant: each operation is run once, from what the operations that it waits for have laid; no order is branched over. Conditions: what a slot holds is kept over every step that leaves the old blocks alone. -/
import Derived.Test.YtonadloonidmjaaDoorTail
import Derived.Orders
import Derived.RegionTactic
namespace Go.Proofs.YtonadloonidmjaaDoor
open Go.RowKit

section
variable {P : Program} {ops : Array Oper} {Q : Exit → Act → World → Prop}

/-- The slot that operation j writes. -/
def dstOf (ops : Array Oper) (j : Nat) : Option Tmp := (ops[j]?).bind (·.dst)
/-- Slot d holds what it is to hold when operation o runs: it comes in, or an operation that o waits for writes it. -/
def avail (ops : Array Oper) (ins : List Nat) (o : Oper) (d : Nat) : Bool := ins.contains d || o.after.any fun e => Region.binds .any e && dstOf ops e.on == some d
/-- No slot is written twice, none that comes in is written; an operation waits for earlier ones alone. -/
def planB (ops : Array Oper) (N : Nat) (ins : List Nat) : Bool :=
  (List.range ops.size).all fun i => match ops[i]? with
    | none => true
    | some o => (match o.dst with
      | none => true
      | some d => decide (d < N) && (!ins.contains d && (List.range i).all fun j => dstOf ops j != some d)) && o.after.all fun e => decide (e.on < i)

/-- What a step is to show. -/
def Stp (P : Program) (ops : Array Oper) (Q : Exit → Act → World → Prop) (I : Nat → World → Value → Prop) (i : Nat) (o : Oper) (a : Act) (w : World) : Prop :=
  wpOp P ops Q i (fun a' w' => ∃ v, a' = a.put o.dst v ∧ Bw w w' ∧ ∀ d, o.dst = some d → I d w' v) a w

theorem eval_put_ne {a : Act} {d : Nat} {v : Value} {o : Option Tmp} (h : o ≠ some d) : (a.put o v).eval (.tmp d) = a.eval (.tmp d) := by
  cases o with
  | none => rfl
  | some e =>
    have hne : e ≠ d := fun h' => h (by rw [h'])
    show (a.tmps.setIfInBounds e v).getD d undef = a.tmps.getD d undef
    simp [hne]
theorem eval_put_eq {a : Act} {d : Nat} {v : Value} (h : d < a.tmps.size) : (a.put (some d) v).eval (.tmp d) = v := by
  show (a.tmps.setIfInBounds d v).getD d undef = v
  simp [h]
theorem size_put {a : Act} {v : Value} {o : Option Tmp} : (a.put o v).tmps.size = a.tmps.size := by
  cases o with
  | none => rfl
  | some d => show (a.tmps.setIfInBounds d v).size = _; simp
theorem defers_put {a : Act} {v : Value} {o : Option Tmp} : (a.put o v).defers = a.defers := by cases o <;> rfl

def unl (n : Nat) (listed : Array Bool) : List Nat := (List.range n).filter fun j => !listed.getD j true
theorem unl_set {n i : Nat} {listed : Array Bool} (hi : i < n) (hu : listed.getD i true = false) : (unl n (listed.setIfInBounds i true)).length < (unl n listed).length := by
  have e : unl n (listed.setIfInBounds i true) = (unl n listed).filter fun j => decide (j ≠ i) := by
    unfold unl
    rw [List.filter_filter]
    apply List.filter_congr
    intro j hj
    by_cases h : j = i
    · subst h
      have hl : j < listed.size := by
        by_cases hl : j < listed.size
        · exact hl
        · simp [hl] at hu
      simp [hl]
    · have h' : i ≠ j := fun e => h e.symm
      simp [h, h']
  rw [e, List.length_filter_lt_length_iff_exists]
  exact ⟨i, by unfold unl; rw [List.mem_filter]; exact ⟨List.mem_range.2 hi, by rw [hu]; rfl⟩, by simp⟩

theorem wp_region_inv {id N : Nat} {w0 : World} {ins : List Nat} (I : Nat → World → Value → Prop) {a0 : Act} (hm : P.follows .mixedOrders = true) (hplan : planB ops N ins = true) (hN : a0.tmps.size = N)
    (hkeep : ∀ d w w' v, Bw w w' → I d w v → I d w' v) (hin : ∀ d ∈ ins, I d w0 (a0.eval (.tmp d)))
    (hstep : ∀ i o, ops[i]? = some o → ∀ a w, Bw w0 w → (∀ d, avail ops ins o d = true → I d w (a.eval (.tmp d))) → Stp P ops Q I i o a w)
    (hend : ∀ a w, Bw w0 w → a.tmps.size = N → a.defers = a0.defers → (∀ d, (∃ j, dstOf ops j = some d) → I d w (a.eval (.tmp d))) → Q .normal a w) : (Code.region id ops true).wp P Q a0 w0 := by
  have hpl : ∀ i o, ops[i]? = some o → (∀ d, o.dst = some d → d < N ∧ d ∉ ins ∧ ∀ j, j < i → dstOf ops j ≠ some d) ∧ ∀ e ∈ o.after, e.on < i := fun i o ho => by
    have hil : i < ops.size := (Array.getElem?_eq_some_iff.1 ho).1
    have h := List.all_eq_true.1 hplan i (List.mem_range.2 hil)
    rw [ho] at h
    simp only [Bool.and_eq_true, Array.all_eq_true_iff_forall_mem, decide_eq_true_eq] at h
    refine ⟨fun d hd => ?_, h.2⟩
    have h1 := h.1
    rw [hd] at h1
    simp only [Bool.and_eq_true, decide_eq_true_eq, Bool.not_eq_true', List.all_eq_true, List.mem_range, bne_iff_ne, ne_eq] at h1
    refine ⟨h1.1, fun hc => ?_, h1.2.2⟩
    have := h1.2.1
    rw [List.contains_iff_mem.2 hc] at this
    cases this
  have hdist : ∀ i j d, dstOf ops i = some d → dstOf ops j = some d → i = j := fun i j d hi hj => by
    have ho : ∀ i, dstOf ops i = some d → ∃ o, ops[i]? = some o ∧ o.dst = some d := fun i hi => by
      unfold dstOf at hi
      cases ho : ops[i]? with
      | none => rw [ho] at hi; cases hi
      | some o => rw [ho] at hi; exact ⟨o, rfl, hi⟩
    obtain ⟨oi, h1, h2⟩ := ho i hi
    obtain ⟨oj, h3, h4⟩ := ho j hj
    rcases Nat.lt_trichotomy i j with h | h | h
    · exact absurd hi (((hpl j oj h3).1 d h4).2.2 i h)
    · exact h
    · exact absurd hj (((hpl i oi h1).1 d h2).2.2 j h)
  have main : ∀ (fuel : Nat) (listed : Array Bool) (a : Act) (w : World), listed.size = ops.size → (unl ops.size listed).length ≤ fuel → Bw w0 w → a.tmps.size = N → a.defers = a0.defers → (∀ d ∈ ins, I d w (a.eval (.tmp d))) →
      (∀ j d, listed.getD j false = true → dstOf ops j = some d → I d w (a.eval (.tmp d))) → wpAny P .any ops Q fuel listed a w := by
    have fin : ∀ (listed : Array Bool) (a : Act) (w : World), listed.size = ops.size → Region.ready .any ops listed = [] → Bw w0 w → a.tmps.size = N → a.defers = a0.defers →
        (∀ j d, listed.getD j false = true → dstOf ops j = some d → I d w (a.eval (.tmp d))) → Q .normal a w := by
      intro listed a w hls hr hb hs hd hI
      have hall : ∀ n j, j < n → j < ops.size → listed.getD j true = true := by
        intro n
        induction n with
        | zero => intro j hj; omega
        | succ n ih =>
          intro j hj hjl
          cases hu : listed.getD j true with
          | true => rfl
          | false =>
            exfalso
            have : j ∈ Region.ready .any ops listed := mem_ready.2 ⟨hu, ops[j], Array.getElem?_eq_getElem hjl, fun e he _ => by
              have h1 := (hpl j _ (Array.getElem?_eq_getElem hjl)).2 e he
              have h2 := ih e.on (by omega) (by omega)
              have h3 : e.on < listed.size := by omega
              simp [h3] at h2 ⊢
              exact h2⟩
            rw [hr] at this
            cases this
      refine hend a w hb hs hd fun d ⟨j, hj⟩ => hI j d ?_ hj
      have hjl : j < ops.size := by
        by_cases h : j < ops.size
        · exact h
        · unfold dstOf at hj
          rw [Array.getElem?_eq_none (by omega)] at hj; cases hj
      have h2 := hall (j + 1) j (by omega) hjl
      have h3 : j < listed.size := by omega
      simp [h3] at h2 ⊢
      exact h2
    intro fuel
    induction fuel with
    | zero =>
      intro listed a w hls hu hb hs hd hi hI
      have hr : Region.ready .any ops listed = [] := by
        apply List.eq_nil_iff_forall_not_mem.2
        intro j hj
        obtain ⟨h1, o, h2, _⟩ := mem_ready.1 hj
        have : j ∈ unl ops.size listed := by
          unfold unl
          rw [List.mem_filter]
          exact ⟨List.mem_range.2 (Array.getElem?_eq_some_iff.1 h2).1, by rw [h1]; rfl⟩
        rw [List.eq_nil_of_length_eq_zero (by omega : (unl ops.size listed).length = 0)] at this
        cases this
      exact ⟨hr, fin listed a w hls hr hb hs hd hI⟩
    | succ fuel ih =>
      intro listed a w hls hu hb hs hd hi hI
      refine ⟨fun hr => fin listed a w hls hr hb hs hd hI, fun i hri => ?_⟩
      obtain ⟨h1, o, ho, hall⟩ := mem_ready.1 hri
      have hil : i < ops.size := (Array.getElem?_eq_some_iff.1 ho).1
      refine wpOp_mono ?_ (hstep i o ho a w hb fun d hd => ?_)
      · rintro a' w' ⟨v, rfl, hbw, hv⟩
        refine ih _ _ _ (by simp [hls]) (by have := unl_set hil h1; omega) (hb.then hbw) (by rw [size_put, hs]) (by rw [defers_put, hd]) (fun d hdi => ?_) (fun j d hj hjd => ?_)
        · rw [eval_put_ne fun e => ((hpl i o ho).1 d e).2.1 hdi]
          exact hkeep _ _ _ _ hbw (hi d hdi)
        · by_cases hji : j = i
          · subst hji
            have hod : o.dst = some d := by unfold dstOf at hjd; rw [ho] at hjd; exact hjd
            rw [hod, eval_put_eq (by rw [hs]; exact ((hpl j o ho).1 d hod).1)]
            exact hv d hod
          · have hne : o.dst ≠ some d := fun e => hji (hdist j i d hjd (by unfold dstOf; rw [ho]; exact e))
            rw [eval_put_ne hne]
            refine hkeep _ _ _ _ hbw (hI j d ?_ hjd)
            have hij : i ≠ j := fun e => hji e.symm
            simpa [hij] using hj
      · unfold avail at hd
        rw [Bool.or_eq_true] at hd
        rcases hd with hd | hd
        · exact hi d (List.contains_iff_mem.1 hd)
        · obtain ⟨e, he, h2⟩ := Array.any_eq_true'.1 hd
          rw [Bool.and_eq_true] at h2
          exact hI e.on d (hall e he h2.1) (by simpa using h2.2)
  refine wp_region_any hm (main ops.size _ a0 _ (by simp) ?_ ((Below.refl _ _).drew) hN rfl (fun d hd => hkeep _ _ _ _ ((Below.refl _ _).drew) (hin d hd)) (fun j d hj => ?_))
  · have := List.length_filter_le (fun j => !(Array.replicate ops.size false).getD j true) (List.range ops.size)
    rw [List.length_range] at this
    exact this
  · exfalso
    by_cases h : j < ops.size
    · simp [h] at hj
    · simp [h] at hj

variable {I : Nat → World → Value → Prop} {i : Nat} {o : Oper} {a : Act} {w w' : World}
/-- An operation that yields its value at once. -/
theorem stp_val (ho : ops[i]? = some o) (hw : Region.wanted o (yielded ops a.tmps) = true) {v : Value} (hr : (execOp a.eval o).run P w = .ok (.value v) w') (hb : Bw w w') (hI : ∀ d, o.dst = some d → I d w' v) : Stp P ops Q I i o a w := by
  refine wpOp_step ho fun K' hK => ?_
  rw [if_pos hw]
  unfold Oper.wp
  rw [hr, Oper.upon_value]
  exact hK _ _ ⟨v, rfl, hb, hI⟩
/-- An operation that calls a function. -/
theorem stp_call (ho : ops[i]? = some o) (hw : Region.wanted o (yielded ops a.tmps) = true) {f : FuncId} {args : Array Value} (hr : (execOp a.eval o).run P w = .ok (.enter f args) w)
    (hc : Calls P f args w fun e w' => ∃ v, e = .returned v ∧ Bw w w' ∧ ∀ d, o.dst = some d → I d w' v) : Stp P ops Q I i o a w := by
  refine wpOp_step ho fun K' hK => ?_
  rw [if_pos hw]
  unfold Oper.wp
  rw [hr, Oper.upon_enter]
  refine hc.mono ?_
  rintro e w' ⟨v, rfl, hb, hI⟩
  exact hK _ _ ⟨v, rfl, hb, hI⟩
theorem want_none (h : o.guard = none) : Region.wanted o (yielded ops a.tmps) = true := by simp [Region.wanted, h]
theorem want_some {j d : Nat} {b : Bool} (h : o.guard = some (j, b)) (hd : dstOf ops j = some d) (he : a.eval (.tmp d) = .bool b) : Region.wanted o (yielded ops a.tmps) = true := by
  have e1 : a.tmps.getD d undef = .bool b := he
  unfold dstOf at hd
  cases ho : ops[j]? with
  | none => rw [ho] at hd; cases hd
  | some oj =>
    rw [ho] at hd
    have hd : oj.dst = some d := hd
    simp [Region.wanted, h, yielded, ho, hd]
    cases ht : a.tmps[d]? with
    | none => simp [ht, undef] at e1
    | some v =>
      have : v = .bool b := by simpa [ht] using e1
      subst this; rfl
end
end Go.Proofs.YtonadloonidmjaaDoor

/- What applying rules until nothing changes means, as a plain function, and its plain laws. Conditions: none; no program in sight. -/
import Derived.Test.YthecmbmidoagaaaDoorSpec
namespace Go.Proofs.YthecmbmidoagaaaDoor.Pl

theorem chg_of {r : Rul} {l : List Coh} {i : Nat} {c : Coh} (h : l[i]? = some c) : chg r l i = if r.tests.all fun t => holdB t l i then (c.1, leftB r c.2) else c := by
  unfold chg; rw [h]
theorem chg_len {r : Rul} {l : List Coh} {i : Nat} {c : Coh} (h : l[i]? = some c) : (chg r l i).2.length ≤ c.2.length := by
  rw [chg_of h]; split
  · exact left_len r c.2
  · exact Nat.le_refl _
theorem chg_form {r : Rul} {l : List Coh} {i : Nat} {c : Coh} (h : l[i]? = some c) : (chg r l i).1 = c.1 := by
  rw [chg_of h]; split <;> rfl
theorem chg_same {r : Rul} {l : List Coh} {i : Nat} {c : Coh} (h : l[i]? = some c) (hl : ¬ (chg r l i).2.length < c.2.length) : chg r l i = c := by
  have h1 := chg_len (r := r) h
  rw [chg_of h] at hl h1 ⊢
  split
  · rename_i hc
    rw [if_pos hc] at hl h1
    rw [left_same (r := r) (c := c.2) (by simp only at hl h1; omega)]
  · rfl
theorem left_sub (r : Rul) (c : List Rdg) : (leftB r c).Sublist c := by
  unfold leftB
  split
  · exact List.Sublist.refl _
  · exact List.filter_sublist
theorem chg_sub {r : Rul} {l : List Coh} {i : Nat} {c : Coh} (h : l[i]? = some c) : (chg r l i).2.Sublist c.2 := by
  rw [chg_of h]; split
  · exact left_sub r c.2
  · exact List.Sublist.refl _

abbrev St := List Coh × List (Int × Int × Int)
/-- One rule at one cohort. -/
def oneA (r : Rul) (k i : Nat) (s : St) : St :=
  match s.1[i]? with
  | none => s
  | some c => if (chg r s.1 i).2.length < c.2.length then (s.1.set i (chg r s.1 i), s.2 ++ [((k : Int), (i : Int), ((chg r s.1 i).2.length : Int))]) else s
/-- One rule at the first n cohorts; the first n rules at all; a pass. -/
def innA (r : Rul) (k : Nat) : Nat → St → St
  | 0, s => s
  | n + 1, s => oneA r k n (innA r k n s)
def outA (rules : List Rul) : Nat → St → St
  | 0, s => s
  | n + 1, s => match rules[n]? with
    | none => outA rules n s
    | some r => innA r n s.1.length (outA rules n s)
def passA (rules : List Rul) (s : St) : St := outA rules rules.length s
def appF (rules : List Rul) : Nat → St → St
  | 0, s => s
  | f + 1, s => if (passA rules s).2.length = s.2.length then s else appF rules f (passA rules s)
def totR (l : List Coh) : Nat := (l.map fun c => c.2.length).sum
def appA (rules : List Rul) (l : List Coh) : St := appF rules (totR l + 1) (l, [])
def validRs (nameB : ByteArray → Bool) (rules : List Rul) : Bool := decide (rules.length ≤ 100) && rules.all (validR nameB)
def app (nameB : ByteArray → Bool) (rules : List Rul) (l : List Coh) : List Coh × List (Int × Int × Int) × Int :=
  if validRs nameB rules && validL nameB l then ((appA rules l).1, (appA rules l).2, 0) else ([], [], 1)

/-- What one application does to a state: the way of all laws. -/
theorem one_cases (r : Rul) (k i : Nat) (s : St) : oneA r k i s = s ∨ ∃ c, s.1[i]? = some c ∧ (chg r s.1 i).2.length < c.2.length ∧ oneA r k i s = (s.1.set i (chg r s.1 i), s.2 ++ [((k : Int), (i : Int), ((chg r s.1 i).2.length : Int))]) := by
  unfold oneA
  split
  · exact .inl rfl
  · rename_i c hc
    split
    · rename_i hlt; exact .inr ⟨c, hc, hlt, rfl⟩
    · exact .inl rfl

/-- A law of states that every step keeps is kept by a pass and by the whole. -/
theorem inn_ind {P : St → Prop} {r : Rul} {k : Nat} (h : ∀ i s, P s → P (oneA r k i s)) : ∀ n s, P s → P (innA r k n s)
  | 0, _, hs => hs
  | n + 1, s, hs => h n _ (inn_ind h n s hs)
theorem out_ind {P : St → Prop} {rules : List Rul} (h : ∀ k r i s, rules[k]? = some r → P s → P (oneA r k i s)) : ∀ n s, P s → P (outA rules n s)
  | 0, _, hs => hs
  | n + 1, s, hs => by
    unfold outA
    split
    · exact out_ind h n s hs
    · rename_i r hr
      exact inn_ind (fun i s' hs' => h n r i s' hr hs') _ _ (out_ind h n s hs)
theorem appF_ind {P : St → Prop} {rules : List Rul} (h : ∀ k r i s, rules[k]? = some r → P s → P (oneA r k i s)) : ∀ f s, P s → P (appF rules f s)
  | 0, _, hs => hs
  | f + 1, s, hs => by
    unfold appF
    split
    · exact hs
    · exact appF_ind h f _ (out_ind h _ s hs)

theorem tot_set {l : List Coh} {i : Nat} {c c' : Coh} (h : l[i]? = some c) : totR (l.set i c') + c.2.length = totR l + c'.2.length := by
  induction l generalizing i with
  | nil => simp at h
  | cons a l ih =>
    cases i with
    | zero => simp at h; subst h; simp [totR]; omega
    | succ i =>
      simp at h
      have := ih h
      simp [totR] at this ⊢; omega

theorem one_len (r : Rul) (k i : Nat) (s : St) : (oneA r k i s).1.length = s.1.length := by
  rcases one_cases r k i s with h | ⟨c, h1, h2, h⟩ <;> rw [h]; simp
theorem inn_len (r : Rul) (k n : Nat) (s : St) : (innA r k n s).1.length = s.1.length :=
  inn_ind (P := fun x => x.1.length = s.1.length) (fun i s' h => (one_len r k i s').trans h) n s rfl
theorem out_len (rules : List Rul) (n : Nat) (s : St) : (outA rules n s).1.length = s.1.length :=
  out_ind (P := fun x => x.1.length = s.1.length) (fun k r i s' _ h => (one_len r k i s').trans h) n s rfl
/-- Steps and readings: each step takes a reading at least. -/
theorem one_sum (r : Rul) (k i : Nat) (s : St) : totR (oneA r k i s).1 + (oneA r k i s).2.length ≤ totR s.1 + s.2.length ∧ s.2.length ≤ (oneA r k i s).2.length ∧ ((oneA r k i s).2.length = s.2.length → oneA r k i s = s) := by
  rcases one_cases r k i s with h | ⟨c, h1, h2, h⟩ <;> rw [h]
  · exact ⟨Nat.le_refl _, Nat.le_refl _, fun _ => rfl⟩
  · have := tot_set (c' := chg r s.1 i) h1
    refine ⟨by simp only [List.length_append, List.length_singleton]; omega, by simp, fun e => ?_⟩
    simp at e
theorem inn_sum (r : Rul) (k : Nat) : ∀ n s, totR (innA r k n s).1 + (innA r k n s).2.length ≤ totR s.1 + s.2.length ∧ s.2.length ≤ (innA r k n s).2.length ∧ ((innA r k n s).2.length = s.2.length → innA r k n s = s)
  | 0, _ => ⟨Nat.le_refl _, Nat.le_refl _, fun _ => rfl⟩
  | n + 1, s => by
    obtain ⟨a1, a2, a3⟩ := inn_sum r k n s
    obtain ⟨b1, b2, b3⟩ := one_sum r k n (innA r k n s)
    show totR (oneA r k n (innA r k n s)).1 + _ ≤ _ ∧ _ ≤ (oneA r k n (innA r k n s)).2.length ∧ ((oneA r k n (innA r k n s)).2.length = _ → oneA r k n (innA r k n s) = s)
    exact ⟨Nat.le_trans b1 a1, Nat.le_trans a2 b2, fun e => (b3 (by omega)).trans (a3 (by omega))⟩
theorem out_sum (rules : List Rul) : ∀ n s, totR (outA rules n s).1 + (outA rules n s).2.length ≤ totR s.1 + s.2.length ∧ s.2.length ≤ (outA rules n s).2.length ∧ ((outA rules n s).2.length = s.2.length → outA rules n s = s)
  | 0, _ => ⟨Nat.le_refl _, Nat.le_refl _, fun _ => rfl⟩
  | n + 1, s => by
    obtain ⟨a1, a2, a3⟩ := out_sum rules n s
    unfold outA
    split
    · exact ⟨a1, a2, a3⟩
    · rename_i r hr
      obtain ⟨b1, b2, b3⟩ := inn_sum r n s.1.length (outA rules n s)
      exact ⟨Nat.le_trans b1 a1, Nat.le_trans a2 b2, fun e => (b3 (by omega)).trans (a3 (by omega))⟩
theorem pass_sum (rules : List Rul) (s : St) : totR (passA rules s).1 + (passA rules s).2.length ≤ totR s.1 + s.2.length ∧ s.2.length ≤ (passA rules s).2.length ∧ ((passA rules s).2.length = s.2.length → passA rules s = s) := out_sum rules _ s

/-- Enough is enough. -/
theorem appF_more (rules : List Rul) : ∀ f s, totR s.1 < f → appF rules f s = appF rules (totR s.1 + 1) s
  | 0, s, h => absurd h (by omega)
  | f + 1, s, h => by
    obtain ⟨h1, h2, h3⟩ := pass_sum rules s
    show (if _ then _ else _) = (if _ then _ else _)
    split
    · rfl
    · rename_i hne
      rw [appF_more rules f _ (by omega)]
      by_cases e : totR (passA rules s).1 + 1 = totR s.1
      · rw [e]
      · exact (appF_more rules (totR s.1) _ (by omega)).symm
theorem appF_stop {rules : List Rul} {s : St} {R : St} (h : appF rules (totR s.1 + 1) s = R) (hp : (passA rules s).2.length = s.2.length) : passA rules s = R := by
  rw [← h]
  show _ = (if _ then _ else _)
  rw [if_pos hp]
  exact (pass_sum rules s).2.2 hp
theorem appF_go {rules : List Rul} {s : St} {R : St} (h : appF rules (totR s.1 + 1) s = R) (hp : ¬ (passA rules s).2.length = s.2.length) : appF rules (totR (passA rules s).1 + 1) (passA rules s) = R ∧ totR (passA rules s).1 < totR s.1 := by
  obtain ⟨h1, h2, h3⟩ := pass_sum rules s
  have hlt : totR (passA rules s).1 < totR s.1 := by omega
  refine ⟨?_, hlt⟩
  rw [← h, ← appF_more rules (totR s.1) _ hlt]
  show _ = (if _ then _ else _)
  rw [if_neg hp]
/-- The end: nothing changes any more. -/
theorem appF_fix (rules : List Rul) : ∀ f s, totR s.1 < f → passA rules (appF rules f s) = appF rules f s
  | 0, s, h => absurd h (by omega)
  | f + 1, s, h => by
    obtain ⟨h1, h2, h3⟩ := pass_sum rules s
    show passA rules (if _ then _ else _) = (if _ then _ else _)
    split
    · rename_i e; exact h3 e
    · exact appF_fix rules f _ (by omega)
theorem appA_fix (rules : List Rul) (l : List Coh) : passA rules (appA rules l) = appA rules l := appF_fix rules _ _ (by simp)

/-- What was there before plays no part. -/
theorem one_pre (r : Rul) (k i : Nat) (l : List Coh) (a b : List (Int × Int × Int)) : oneA r k i (l, a ++ b) = ((oneA r k i (l, b)).1, a ++ (oneA r k i (l, b)).2) := by
  unfold oneA
  simp only
  split
  · rfl
  · split
    · simp
    · rfl
theorem inn_pre (r : Rul) (k : Nat) (l : List Coh) (a b : List (Int × Int × Int)) : ∀ n, innA r k n (l, a ++ b) = ((innA r k n (l, b)).1, a ++ (innA r k n (l, b)).2)
  | 0 => rfl
  | n + 1 => by
    show oneA r k n _ = (_, _)
    rw [inn_pre r k l a b n, one_pre]; rfl
theorem out_pre (rules : List Rul) (l : List Coh) (a b : List (Int × Int × Int)) : ∀ n, outA rules n (l, a ++ b) = ((outA rules n (l, b)).1, a ++ (outA rules n (l, b)).2)
  | 0 => rfl
  | n + 1 => by
    unfold outA
    rw [out_pre rules l a b n]
    split
    · rfl
    · rw [inn_pre]
/-- Applying again removes nothing. -/
theorem appA_again (rules : List Rul) (l : List Coh) : appA rules (appA rules l).1 = ((appA rules l).1, []) := by
  have h := appA_fix rules l
  have h2 : passA rules ((appA rules l).1, []) = ((appA rules l).1, []) := by
    have := out_pre rules (appA rules l).1 (appA rules l).2 [] rules.length
    rw [List.append_nil] at this
    unfold passA at h ⊢
    rw [h] at this
    have h3 := congrArg Prod.fst this
    have h4 := congrArg Prod.snd this
    simp only at h3 h4
    have h5 := List.append_right_eq_self.1 h4.symm
    exact Prod.ext h3.symm h5
  unfold appA
  show (if _ then _ else _) = _
  rw [if_pos (by rw [show ((appF rules (totR l + 1) (l, [])).1, ([] : List (Int × Int × Int))) = ((appA rules l).1, []) from rfl, h2])]

/-- Validity is kept. -/
theorem validC_sub {nameB : ByteArray → Bool} {c d : Coh} (h : validC nameB c = true) (h1 : d.1 = c.1) (h2 : d.2.Sublist c.2) : validC nameB d = true := by
  unfold validC at h ⊢
  simp only [Bool.and_eq_true, decide_eq_true_eq] at h ⊢
  obtain ⟨⟨a1, a2⟩, a3⟩ := h
  refine ⟨⟨by rw [h1]; exact a1, Nat.le_trans h2.length_le a2⟩, ?_⟩
  rw [List.all_eq_true] at a3 ⊢
  exact fun x hx => a3 x (h2.subset hx)
theorem validL_set {nameB : ByteArray → Bool} {l : List Coh} {i : Nat} {c d : Coh} (h : validL nameB l = true) (hc : l[i]? = some c) (h1 : d.1 = c.1) (h2 : d.2.Sublist c.2) : validL nameB (l.set i d) = true := by
  unfold validL at h ⊢
  simp only [Bool.and_eq_true, decide_eq_true_eq, List.length_set] at h ⊢
  refine ⟨h.1, ?_⟩
  have h3 := h.2
  rw [List.all_eq_true] at h3 ⊢
  intro x hx
  rcases List.mem_or_eq_of_mem_set hx with hx | rfl
  · exact h3 x hx
  · exact validC_sub (h3 c (List.mem_of_getElem? hc)) h1 h2
theorem one_valid {nameB : ByteArray → Bool} {r : Rul} {k i : Nat} {s : St} (h : validL nameB s.1 = true) : validL nameB (oneA r k i s).1 = true := by
  rcases one_cases r k i s with e | ⟨c, h1, h2, e⟩ <;> rw [e]
  · exact h
  · exact validL_set h h1 (chg_form h1) (chg_sub h1)
theorem appA_valid {nameB : ByteArray → Bool} {rules : List Rul} {l : List Coh} (h : validL nameB l = true) : validL nameB (appA rules l).1 = true :=
  appF_ind (P := fun s => validL nameB s.1 = true) (fun _ _ _ _ _ h => one_valid h) _ _ h

/-- Forms are kept, readings are taken away, and without unsafe rules not the last one. -/
theorem appA_len (rules : List Rul) (l : List Coh) : (appA rules l).1.length = l.length :=
  appF_ind (P := fun s => s.1.length = l.length) (fun k r i s _ h => (one_len r k i s).trans h) _ _ rfl
theorem set_at {α : Type} {l : List α} {i j : Nat} {a x c : α} (hc : l[i]? = some c) (h : (l.set i a)[j]? = some x) : (j = i ∧ x = a) ∨ l[j]? = some x := by
  rw [List.getElem?_set] at h
  split at h
  · rename_i e
    subst e
    rw [if_pos (List.getElem?_eq_some_iff.1 hc).1] at h
    injection h with h
    exact .inl ⟨rfl, h.symm⟩
  · exact .inr h
theorem appA_sub (rules : List Rul) (l : List Coh) : ∀ (j : Nat) (x : Coh), (appA rules l).1[j]? = some x → ∃ c, l[j]? = some c ∧ x.1 = c.1 ∧ x.2.Sublist c.2 :=
  appF_ind (P := fun s => ∀ (j : Nat) (x : Coh), s.1[j]? = some x → ∃ c, l[j]? = some c ∧ x.1 = c.1 ∧ x.2.Sublist c.2) (fun k r i s _ h => by
    rcases one_cases r k i s with e | ⟨c, h1, h2, e⟩ <;> rw [e]
    · exact h
    · intro j x hx
      rcases set_at h1 hx with ⟨rfl, rfl⟩ | hx
      · obtain ⟨d, d1, d2, d3⟩ := h j c h1
        exact ⟨d, d1, (chg_form h1).trans d2, (chg_sub h1).trans d3⟩
      · exact h j x hx) _ _ (fun j x hx => ⟨x, hx, rfl, List.Sublist.refl _⟩)
theorem left_some {r : Rul} {c : List Rdg} (hw : r.wild = false) (hr : r.op = 1 ∨ r.op = 2) (h : 0 < c.length) : 0 < (leftB r c).length := by
  unfold leftB
  split
  · exact h
  · rename_i hc
    rw [hw] at hc
    rcases hr with e | e
    · rw [e] at hc ⊢
      simp at hc
      have : cnt c r.target = (c.filter fun x => hasB x r.target == decide ((1 : Int) = 1)).length := by
        unfold cnt; congr 1; apply List.filter_congr; intro x _; simp
      omega
    · rw [e] at hc ⊢
      simp at hc
      rw [List.length_pos_iff_exists_mem]
      have h1 : ¬ ∀ a ∈ c, hasB a r.target = true := fun hall => hc (by unfold cnt; rw [List.length_filter_eq_length_iff]; exact hall)
      rw [Classical.not_forall] at h1
      obtain ⟨x, hx⟩ := h1
      rw [Classical.not_imp] at hx
      exact ⟨x, List.mem_filter.2 ⟨hx.1, by simpa using hx.2⟩⟩
theorem appA_some {rules : List Rul} (hw : ∀ r ∈ rules, r.wild = false ∧ (r.op = 1 ∨ r.op = 2)) (l : List Coh) : ∀ (j : Nat) (x c : Coh), (appA rules l).1[j]? = some x → l[j]? = some c → 0 < c.2.length → 0 < x.2.length :=
  appF_ind (P := fun s => ∀ (j : Nat) (x c : Coh), s.1[j]? = some x → l[j]? = some c → 0 < c.2.length → 0 < x.2.length) (fun k r i s hk h => by
    rcases one_cases r k i s with e | ⟨d, h1, h2, e⟩ <;> rw [e]
    · exact h
    · intro j x c hx hc h0
      rcases set_at h1 hx with ⟨rfl, rfl⟩ | hx
      · have hd := h j d c h1 hc h0
        have hm := hw r (List.mem_of_getElem? hk)
        rw [chg_of h1]
        split
        · exact left_some hm.1 hm.2 hd
        · exact hd
      · exact h j x c hx hc h0) _ _ (fun j x c hx hc h0 => by rw [hx] at hc; injection hc with hc; subst hc; exact h0)
/-- Steps against readings. -/
theorem appA_sum (rules : List Rul) (l : List Coh) : totR (appA rules l).1 + (appA rules l).2.length ≤ totR l ∧ (totR (appA rules l).1 < totR l → 0 < (appA rules l).2.length) := by
  refine appF_ind (P := fun s => totR s.1 + s.2.length ≤ totR l ∧ (totR s.1 < totR l → 0 < s.2.length)) (fun k r i s _ h => ?_) _ _ ⟨by simp, fun h => absurd h (by simp)⟩
  obtain ⟨h1, h2, h3⟩ := one_sum r k i s
  refine ⟨by omega, fun hlt => ?_⟩
  by_cases e : (oneA r k i s).2.length = s.2.length
  · rw [h3 e] at hlt ⊢; exact h.2 hlt
  · omega

/-- The steps, one by one. -/
def replay (rules : List Rul) : List (Int × Int × Int) → List Coh → Option (List Coh)
  | [], l => some l
  | x :: xs, l => if 0 ≤ x.1 ∧ 0 ≤ x.2.1 then match rules[x.1.toNat]?, l[x.2.1.toNat]? with
    | some r, some c => if ((chg r l x.2.1.toNat).2.length : Int) = x.2.2 ∧ (chg r l x.2.1.toNat).2.length < c.2.length then replay rules xs (l.set x.2.1.toNat (chg r l x.2.1.toNat)) else none
    | _, _ => none else none
theorem replay_append (rules : List Rul) : ∀ a b l, replay rules (a ++ b) l = (replay rules a l).bind (replay rules b)
  | [], _, _ => rfl
  | x :: a, b, l => by
    rw [List.cons_append]
    unfold replay
    split
    · split
      · split
        · exact replay_append rules a b _
        · rfl
      · rfl
    · rfl
theorem appA_replay (rules : List Rul) (l : List Coh) : replay rules (appA rules l).2 l = some (appA rules l).1 :=
  appF_ind (P := fun s => replay rules s.2 l = some s.1) (fun k r i s hk h => by
    rcases one_cases r k i s with e | ⟨c, h1, h2, e⟩ <;> rw [e]
    · exact h
    · rw [replay_append, h]
      show replay rules [_] s.1 = _
      unfold replay
      rw [if_pos ⟨Int.natCast_nonneg _, Int.natCast_nonneg _⟩]
      simp only [Int.toNat_natCast, hk, h1]
      rw [if_pos ⟨trivial, h2⟩]
      rfl) _ _ rfl

/-- The opposite of a test. -/
theorem hold_not (t : Tst) (l : List Coh) (i : Int) : holdB { t with neg := !t.neg } l i = !holdB t l i := by
  have hs : ∀ (f : Nat) (k d : Int), scanF { t with neg := !t.neg } l d f k = scanF t l d f k := fun f => by
    induction f with
    | zero => intro k d; rfl
    | succ f ih =>
      intro k d
      unfold scanF
      split
      · rfl
      · rename_i c hc
        rw [ih]; rfl
  have : condB { t with neg := !t.neg } l i = condB t l i := by
    unfold condB
    rw [show stepD { t with neg := !t.neg } = stepD t from rfl]
    simp only [hs]
    rfl
  unfold holdB
  rw [this]
  cases condB t l i <;> cases t.neg <;> rfl
theorem holds_not (nameB : ByteArray → Bool) {t : Tst} {l : List Coh} {i : Int} (h : validT nameB t = true) (hl : validL nameB l = true) (hi : inL l i = true) : holdsB nameB { t with neg := !t.neg } l i = !holdsB nameB t l i := by
  unfold holdsB
  rw [show validT nameB { t with neg := !t.neg } = validT nameB t from rfl, h, hl, hi, hold_not]
  rfl
/-- Fewer tests. -/
theorem chg_fewer {r : Rul} {l : List Coh} {i : Nat} {c : Coh} (hc : l[i]? = some c) (ts : List Tst) (hs : ∀ t ∈ ts, t ∈ r.tests) (h : (chg r l i).2.length < c.2.length) : chg { r with tests := ts } l i = chg r l i := by
  have ha : (r.tests.all fun t => holdB t l i) = true := by
    cases q : r.tests.all fun t => holdB t l i
    · rw [chg_of hc, q] at h; simp at h
    · rfl
  rw [chg_of hc, chg_of hc, ha]
  rw [if_pos rfl, if_pos (by rw [List.all_eq_true] at ha ⊢; exact fun t ht => ha t (hs t ht))]
  rfl
theorem chg_holds {r : Rul} {l : List Coh} {i : Nat} {c : Coh} (hc : l[i]? = some c) (h : (chg r l i).2.length < c.2.length) {t : Tst} (ht : t ∈ r.tests) : holdB t l i = true := by
  cases q : r.tests.all fun t => holdB t l i
  · rw [chg_of hc, q] at h; simp at h
  · rw [List.all_eq_true] at q; exact q t ht
end Go.Proofs.YthecmbmidoagaaaDoor.Pl

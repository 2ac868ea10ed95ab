/- The plain law of guess, continued: what Learn, Guess and Whole answer. Conditions: none. -/
import Derived.Test.YtonadloonidmjaaDoorGP
import Derived.Test.YtonadloonidmjaaDoorPlain2
namespace Go.Proofs.YtonadloonidmjaaDoor
open Go
open Pl

abbrev Kn := List Int × ByteArray
def wordB (x : List Int) : Bool := decide (x.length ≤ 200) && x.all fun s => decide (1 ≤ s) && decide (s ≤ 500)
def tagsB (s : ByteArray) : Bool := decide (1 ≤ s.size) && decide (s.size ≤ 16384) && okS s
def knB (k : Kn) : Bool := wordB k.1 && tagsB k.2
def knownB (l : List Kn) : Bool := l.all knB

/-- The endings of one word, of all words. -/
def evK (most : Nat) (k : Kn) : List Ky := (List.range (min most k.1.length + 1)).map fun n => (k.1.drop (k.1.length - n), k.2)
def evs (l : List Kn) (most : Nat) : List Ky := l.flatMap (evK most)
def argB (l : List Kn) (most : Int) : Bool := decide (l.length ≤ 3000) && (decide (0 ≤ most) && (decide (most ≤ 40) && knownB l))
def learnP (l : List Kn) (most : Int) : List En × Int :=
  if argB l most then (if (learnE (evs l most.toNat)).length ≤ 30000 then (learnE (evs l most.toNat), 0) else ([], 2)) else ([], 1)

/-- The tags of a known word. -/
def insS (t : ByteArray) : List ByteArray → List ByteArray
  | [] => [t]
  | y :: r => if cmpB y t < 0 then y :: insS t r else if y = t then y :: r else t :: y :: r
def wholeE (l : List ByteArray) : List ByteArray := l.foldl (fun o t => insS t o) []
def tagsOf (l : List Kn) (x : List Int) : List ByteArray := (l.filter fun k => decide (k.1 = x)).map (·.2)
def wholeP (l : List Kn) (x : List Int) : List ByteArray := if knownB l then wholeE (tagsOf l x) else []

def SS (o : List ByteArray) : Prop := o.Pairwise fun a b => cmpB a b < 0
theorem insS_mem {t : ByteArray} : ∀ {o : List ByteArray} (e : ByteArray), e ∈ insS t o ↔ e = t ∨ e ∈ o
  | [], e => by simp [insS]
  | y :: r, e => by
    have ih := insS_mem (t := t) (o := r) e
    rw [insS]
    split
    · simp only [List.mem_cons, ih]
      constructor
      · rintro (h | h | h)
        · exact .inr (.inl h)
        · exact .inl h
        · exact .inr (.inr h)
      · rintro (h | h | h)
        · exact .inr (.inl h)
        · exact .inl h
        · exact .inr (.inr h)
    · split
      · rename_i h; subst h; simp
      · simp
theorem insS_sorted {t : ByteArray} : ∀ {o : List ByteArray}, SS o → SS (insS t o)
  | [], _ => by simp [insS, SS]
  | y :: r, h => by
    obtain ⟨p1, p2⟩ := List.pairwise_cons.1 h
    rw [insS]
    by_cases c1 : cmpB y t < 0
    · rw [if_pos c1]
      refine List.pairwise_cons.2 ⟨fun e he => ?_, insS_sorted p2⟩
      rcases (insS_mem e).1 he with rfl | h2
      · exact c1
      · exact p1 e h2
    · rw [if_neg c1]
      by_cases c2 : y = t
      · rw [if_pos c2]; exact h
      · rw [if_neg c2]
        have c3 : cmpB t y < 0 := by
          rcases totB.tri t y with h | h | h
          · exact h
          · exact absurd h.symm c2
          · exact absurd h c1
        refine List.pairwise_cons.2 ⟨fun e he => ?_, h⟩
        rcases List.mem_cons.1 he with rfl | h2
        · exact c3
        · exact totB.trans _ _ _ c3 (p1 e h2)
theorem whole_foldl : ∀ (l o : List ByteArray), SS o → SS (l.foldl (fun o t => insS t o) o) ∧ ∀ e, e ∈ l.foldl (fun o t => insS t o) o ↔ e ∈ o ∨ e ∈ l
  | [], o, h => ⟨h, fun e => by simp⟩
  | t :: r, o, h => by
    obtain ⟨h1, h2⟩ := whole_foldl r (insS t o) (insS_sorted h)
    refine ⟨h1, fun e => ?_⟩
    rw [List.foldl_cons, h2, insS_mem, List.mem_cons]
    constructor
    · rintro ((h | h) | h)
      · exact .inr (.inl h)
      · exact .inl h
      · exact .inr (.inr h)
    · rintro (h | h | h)
      · exact .inl (.inr h)
      · exact .inl (.inl h)
      · exact .inr h
theorem wholeE_sorted (l : List ByteArray) : SS (wholeE l) := (whole_foldl l [] List.Pairwise.nil).1
theorem wholeE_mem (l : List ByteArray) (e : ByteArray) : e ∈ wholeE l ↔ e ∈ l := by
  rw [wholeE, (whole_foldl l [] List.Pairwise.nil).2]; simp
theorem wholeE_of {l o : List ByteArray} (h : SS o) (hm : ∀ e, e ∈ o ↔ e ∈ l) : o = wholeE l :=
  sorted_ext (fun _ _ h => totB.asym h) o _ h (wholeE_sorted l) fun e => by rw [hm, wholeE_mem]

/-- A list of endings is valid. -/
def okE (e : En) : Bool := wordB e.1 && (tagsB e.2.1 && (decide (1 ≤ e.2.2) && decide (e.2.2 ≤ 30000)))
def e0 : En := ([], ⟨#[]⟩, 0)
def validG (g : List En) : Bool := decide (g.length ≤ 30000) && allR g.length fun i => okE (g.getD i e0) && (decide (i = 0) || decide (ordK (kyE (g.getD (i - 1) e0)) (kyE (g.getD i e0)) < 0))
theorem pairwise_of_adj {α : Type} {r : α → α → Prop} (ht : ∀ a b c, r a b → r b c → r a c) : ∀ {g : List α}, (∀ i a b, g[i]? = some a → g[i + 1]? = some b → r a b) → g.Pairwise r
  | [], _ => List.Pairwise.nil
  | [a], _ => by simp
  | a :: b :: s, h => by
    have ih : (b :: s).Pairwise r := pairwise_of_adj ht fun i x y h1 h2 => h (i + 1) x y (by simpa using h1) (by simpa using h2)
    have hab := h 0 a b rfl rfl
    refine List.pairwise_cons.2 ⟨fun e he => ?_, ih⟩
    rcases List.mem_cons.1 he with rfl | h2
    · exact hab
    · exact ht _ _ _ hab ((List.pairwise_cons.1 ih).1 e h2)
theorem validG_sorted {g : List En} (h : validG g = true) : SK g := by
  unfold validG at h
  rw [Bool.and_eq_true, allR_iff] at h
  refine pairwise_of_adj (r := rE) (fun a b c h1 h2 => totK.trans _ _ _ h1 h2) fun i a b h1 h2 => ?_
  have hi := (List.getElem?_eq_some_iff.1 h2).1
  have := h.2 (i + 1) hi
  simp only [Bool.and_eq_true, Bool.or_eq_true, decide_eq_true_eq] at this
  rcases this.2 with h0 | h0
  · omega
  · rw [getD_of h2, show i + 1 - 1 = i by omega, getD_of h1] at h0
    exact h0
theorem validG_len {g : List En} (h : validG g = true) : g.length ≤ 30000 := by
  unfold validG at h
  rw [Bool.and_eq_true] at h
  simpa using h.1
theorem validG_mem {g : List En} (h : validG g = true) {e : En} (he : e ∈ g) : okE e = true := by
  unfold validG at h
  rw [Bool.and_eq_true, allR_iff] at h
  obtain ⟨i, hi⟩ := List.mem_iff_getElem?.1 he
  have := h.2 i (List.getElem?_eq_some_iff.1 hi).1
  rw [Bool.and_eq_true, getD_of hi] at this
  exact this.1

/-- The order of an answer. -/
def lkB (a b : En) : Bool := decide (b.2.2 < a.2.2) || (decide (a.2.2 = b.2.2) && decide (cmpB a.2.1 b.2.1 < 0))
def insL (y : En) : List En → List En
  | [] => [y]
  | z :: r => if lkB y z then y :: z :: r else z :: insL y r
def sortL (l : List En) : List En := l.foldl (fun o y => insL y o) []
def LS (l : List En) : Prop := l.Pairwise fun a b => lkB a b = true
theorem lk_iff (a b : En) : lkB a b = true ↔ b.2.2 < a.2.2 ∨ (a.2.2 = b.2.2 ∧ cmpB a.2.1 b.2.1 < 0) := by
  unfold lkB; simp
theorem lk_asym {a b : En} (h : lkB a b = true) : ¬ lkB b a = true := by
  rw [lk_iff] at *
  rcases h with h | ⟨h1, h2⟩
  · rintro (h' | ⟨h1', _⟩) <;> omega
  · rintro (h' | ⟨_, h2'⟩)
    · omega
    · exact totB.asym h2 h2'
theorem lk_trans {a b c : En} (h : lkB a b = true) (h' : lkB b c = true) : lkB a c = true := by
  rw [lk_iff] at *
  rcases h with h | ⟨h1, h2⟩
  · rcases h' with h' | ⟨h1', _⟩ <;> (left; omega)
  · rcases h' with h' | ⟨h1', h2'⟩
    · left; omega
    · right; exact ⟨by omega, totB.trans _ _ _ h2 h2'⟩
theorem lk_tri {a b : En} (h : a.2.1 ≠ b.2.1) : lkB a b = true ∨ lkB b a = true := by
  rw [lk_iff, lk_iff]
  by_cases h1 : b.2.2 < a.2.2
  · exact .inl (.inl h1)
  · by_cases h2 : a.2.2 < b.2.2
    · exact .inr (.inl h2)
    · rcases totB.tri a.2.1 b.2.1 with h3 | h3 | h3
      · exact .inl (.inr ⟨by omega, h3⟩)
      · exact absurd h3 h
      · exact .inr (.inr ⟨by omega, h3⟩)
theorem insL_mem {y : En} : ∀ {o : List En} (e : En), e ∈ insL y o ↔ e = y ∨ e ∈ o
  | [], e => by simp [insL]
  | z :: r, e => by
    have ih := insL_mem (y := y) (o := r) e
    rw [insL]
    split
    · simp
    · simp only [List.mem_cons, ih]
      constructor
      · rintro (h | h | h)
        · exact .inr (.inl h)
        · exact .inl h
        · exact .inr (.inr h)
      · rintro (h | h | h)
        · exact .inr (.inl h)
        · exact .inl h
        · exact .inr (.inr h)
theorem insL_sorted {y : En} : ∀ {o : List En}, LS o → (∀ e ∈ o, e.2.1 ≠ y.2.1) → LS (insL y o)
  | [], _, _ => by simp [insL, LS]
  | z :: r, h, hn => by
    obtain ⟨p1, p2⟩ := List.pairwise_cons.1 h
    rw [insL]
    by_cases c : lkB y z = true
    · rw [if_pos c]
      refine List.pairwise_cons.2 ⟨fun e he => ?_, h⟩
      rcases List.mem_cons.1 he with rfl | h2
      · exact c
      · exact lk_trans c (p1 e h2)
    · rw [if_neg c]
      refine List.pairwise_cons.2 ⟨fun e he => ?_, insL_sorted p2 fun e he => hn e (by simp [he])⟩
      rcases (insL_mem e).1 he with rfl | h2
      · rcases lk_tri (hn z (by simp)) with h | h
        · exact h
        · exact absurd h c
      · exact p1 e h2
/-- Elements with different tags. -/
def Dt (l : List En) : Prop := l.Pairwise fun a b => a.2.1 ≠ b.2.1
theorem sortL_foldl : ∀ (l o : List En), LS o → Dt l → (∀ e ∈ o, ∀ y ∈ l, e.2.1 ≠ y.2.1) → LS (l.foldl (fun o y => insL y o) o) ∧ ∀ e, e ∈ l.foldl (fun o y => insL y o) o ↔ e ∈ o ∨ e ∈ l
  | [], o, h, _, _ => ⟨h, fun e => by simp⟩
  | y :: r, o, h, hd, hn => by
    obtain ⟨p1, p2⟩ := List.pairwise_cons.1 hd
    obtain ⟨h1, h2⟩ := sortL_foldl r (insL y o) (insL_sorted h fun e he => hn e he y (by simp)) p2 fun e he z hz => by
      rcases (insL_mem e).1 he with rfl | h3
      · exact p1 z hz
      · exact hn e h3 z (by simp [hz])
    refine ⟨h1, fun e => ?_⟩
    rw [List.foldl_cons, h2, insL_mem, List.mem_cons]
    constructor
    · rintro ((h | h) | h)
      · exact .inr (.inl h)
      · exact .inl h
      · exact .inr (.inr h)
    · rintro (h | h | h)
      · exact .inl (.inr h)
      · exact .inl (.inl h)
      · exact .inr h
theorem sortL_of {l o : List En} (hd : Dt l) (h : LS o) (hm : ∀ e, e ∈ o ↔ e ∈ l) : o = sortL l := by
  obtain ⟨h1, h2⟩ := sortL_foldl l [] List.Pairwise.nil hd (fun e he => by simp at he)
  exact sorted_ext (fun _ _ h => lk_asym h) o _ h h1 fun e => by rw [hm]; exact ((h2 e).trans (by simp)).symm
theorem sortL_mem {l : List En} (hd : Dt l) (e : En) : e ∈ sortL l ↔ e ∈ l := by
  rw [sortL, (sortL_foldl l [] List.Pairwise.nil hd (fun e he => by simp at he)).2]; simp

/-- The elements with a word. -/
def atW (g : List En) (x : List Int) : List En := g.filter fun e => decide (e.1 = x)
def endF (g : List En) (x : List Int) : Nat → List En
  | 0 => atW g (x.drop x.length)
  | n + 1 => if atW g (x.drop (x.length - (n + 1))) = [] then endF g x n else atW g (x.drop (x.length - (n + 1)))
def guessP (g : List En) (x : List Int) : List En × Int :=
  if validG g && wordB x then (if endF g x x.length = [] then ([], 4) else (sortL (endF g x x.length), 0)) else ([], 1)

/-- Of a list in order, the elements with one word have different tags, in order. -/
theorem atW_dt {g : List En} (h : SK g) (x : List Int) : (atW g x).Pairwise fun a b => cmpB a.2.1 b.2.1 < 0 := by
  have h1 : (atW g x).Pairwise fun a b => a ∈ atW g x ∧ b ∈ atW g x ∧ rE a b := List.Pairwise.imp_of_mem (fun ha hb h => ⟨ha, hb, h⟩) (List.Pairwise.filter _ h)
  refine h1.imp fun {a b} ⟨ha, hb, h⟩ => ?_
  have ea : a.1 = x := by simpa [atW] using (List.mem_filter.1 ha).2
  have eb : b.1 = x := by simpa [atW] using (List.mem_filter.1 hb).2
  have hz : cmpL (kyE a).1 (kyE b).1 = 0 := by
    show cmpL a.1 b.1 = 0
    rw [ea, eb]; exact totL.self x
  unfold rE ordK at h
  rw [if_pos hz] at h
  exact h
theorem atW_Dt {g : List En} (h : SK g) (x : List Int) : Dt (atW g x) := (atW_dt h x).imp fun h => totB.ne h
end Go.Proofs.YtonadloonidmjaaDoor

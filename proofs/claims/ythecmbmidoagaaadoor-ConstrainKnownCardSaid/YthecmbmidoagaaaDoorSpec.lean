/- What the chapter on constraint rules means, as plain functions: readings, cohorts, tests, rules; what a rule does to a cohort. Conditions: none; no program in sight. -/
import Derived.Test.YthecmbmidoagaaaDoorPlain2
namespace Go.Proofs.YthecmbmidoagaaaDoor.Pl

/-- A reading: its tags. A cohort: its form, its readings. -/
abbrev Rdg := List ByteArray
abbrev Coh := ByteArray × List Rdg
structure Tst where
  at' : Int
  scan : Bool
  neg : Bool
  care : Bool
  tags : List ByteArray
  bar : List ByteArray
deriving DecidableEq
structure Rul where
  op : Int
  target : List ByteArray
  tests : List Tst
  wild : Bool
deriving DecidableEq

/-- So many names. -/
def nmT (nameB : ByteArray → Bool) (l : List ByteArray) (lo hi : Nat) : Bool := decide (lo ≤ l.length) && decide (l.length ≤ hi) && l.all nameB
def validC (nameB : ByteArray → Bool) (c : Coh) : Bool := nameB c.1 && decide (c.2.length ≤ 30) && c.2.all fun r => nmT nameB r 1 20
def validL (nameB : ByteArray → Bool) (l : List Coh) : Bool := decide (l.length ≤ 200) && l.all (validC nameB)
def validT (nameB : ByteArray → Bool) (t : Tst) : Bool :=
  decide (-99 ≤ t.at') && decide (t.at' ≤ 99) && !(t.scan && decide (t.at' = 0)) && nmT nameB t.tags 1 20 && nmT nameB t.bar 0 20 && (t.scan || decide (t.bar.length = 0))
def validR (nameB : ByteArray → Bool) (r : Rul) : Bool := (decide (r.op = 1) || decide (r.op = 2)) && nmT nameB r.target 1 20 && decide (r.tests.length ≤ 10) && r.tests.all (validT nameB)

/-- A reading has tags. -/
def amongB (r : List ByteArray) (t : ByteArray) : Bool := r.any fun x => decide (x = t)
def hasB (r : Rdg) (tags : List ByteArray) : Bool := tags.all (amongB r)
/-- How many readings have them. -/
def cnt (c : List Rdg) (tags : List ByteArray) : Nat := (c.filter fun r => hasB r tags).length
def matB (t : Tst) (c : Coh) : Bool := decide (0 < cnt c.2 t.tags) && (!t.care || decide (cnt c.2 t.tags = c.2.length))
def barB (t : Tst) (c : Coh) : Bool := decide (0 < t.bar.length) && decide (0 < cnt c.2 t.bar)
/-- The cohort at a place, if there is one. -/
def atI {α : Type} (l : List α) (k : Int) : Option α := if 0 ≤ k then l[k.toNat]? else none
/-- A scan from a place on. -/
def scanF (t : Tst) (l : List Coh) (d : Int) : Nat → Int → Bool
  | 0, _ => false
  | f + 1, k => match atI l k with
    | none => false
    | some c => if matB t c then true else if barB t c then false else scanF t l d f (k + d)
def stepD (t : Tst) : Int := if t.at' < 0 then -1 else 1
def condB (t : Tst) (l : List Coh) (i : Int) : Bool :=
  if t.scan then scanF t l (stepD t) (l.length + 1) (i + t.at') else match atI l (i + t.at') with | none => false | some c => matB t c
/-- A test holds (a valid one, at a place there is). -/
def holdB (t : Tst) (l : List Coh) (i : Int) : Bool := condB t l i != t.neg
def inL {α : Type} (l : List α) (i : Int) : Bool := decide (0 ≤ i) && decide (i < l.length)
def holdsB (nameB : ByteArray → Bool) (t : Tst) (l : List Coh) (i : Int) : Bool := validT nameB t && validL nameB l && inL l i && holdB t l i
/-- What a rule leaves of the readings of a cohort. -/
def leftB (r : Rul) (c : List Rdg) : List Rdg :=
  if (decide (r.op = 1) && decide (cnt c r.target = 0)) || (decide (r.op = 2) && decide (cnt c r.target = c.length) && !r.wild) then c
  else c.filter fun x => hasB x r.target == decide (r.op = 1)
def chg (r : Rul) (l : List Coh) (i : Nat) : Coh :=
  match l[i]? with
  | none => (⟨#[]⟩, [])
  | some c => if r.tests.all fun t => holdB t l i then (c.1, leftB r c.2) else c
/-- Step. -/
def stp (nameB : ByteArray → Bool) (r : Rul) (l : List Coh) (i : Int) : Coh × Bool × Int :=
  if validR nameB r && validL nameB l && inL l i then (chg r l i.toNat, decide ((chg r l i.toNat).2.length < (match l[i.toNat]? with | some c => c.2.length | none => 0)), 0) else ((⟨#[]⟩, []), false, 1)

theorem left_len (r : Rul) (c : List Rdg) : (leftB r c).length ≤ c.length := by
  unfold leftB
  split
  · exact Nat.le_refl _
  · exact List.length_filter_le _ _
theorem left_same {r : Rul} {c : List Rdg} (h : (leftB r c).length = c.length) : leftB r c = c := by
  unfold leftB at h ⊢
  split
  · rfl
  · rename_i hc
    rw [if_neg hc] at h
    exact List.filter_eq_self.2 (fun a ha => by
      have := List.length_filter_eq_length_iff.1 h a ha
      exact this)
end Go.Proofs.YthecmbmidoagaaaDoor.Pl

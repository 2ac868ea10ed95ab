/- The plain law of guess: the orders of words, texts and elements; lists in strict order with the same members are one; counting elements into a list. Conditions: none. -/
import Derived.Test.YtonadloonidmjaaDoorPure
import Derived.Lib.Bytealg
namespace Go.Proofs.YtonadloonidmjaaDoor
open Go

/-- A comparison that is a total order. -/
structure Tot {α : Type} (c : α → α → Int) : Prop where
  zero : ∀ a b, c a b = 0 ↔ a = b
  anti : ∀ a b, c a b < 0 ↔ 0 < c b a
  trans : ∀ a b d, c a b < 0 → c b d < 0 → c a d < 0

section
variable {α : Type} {c : α → α → Int} (T : Tot c)
include T
theorem Tot.self (a : α) : c a a = 0 := (T.zero a a).2 rfl
theorem Tot.asym {a b : α} (h : c a b < 0) : ¬ c b a < 0 := fun h2 => by
  have := (T.anti a b).1 h; omega
theorem Tot.ne {a b : α} (h : c a b < 0) : a ≠ b := fun e => by
  rw [(T.zero a b).2 e] at h; omega
theorem Tot.tri (a b : α) : c a b < 0 ∨ a = b ∨ c b a < 0 := by
  by_cases h : c a b < 0
  · exact .inl h
  · by_cases h0 : c a b = 0
    · exact .inr (.inl ((T.zero a b).1 h0))
    · refine .inr (.inr ((T.anti b a).2 (by omega)))
end

theorem lexC_anti : ∀ x y : List Int, lexC x y < 0 ↔ 0 < lexC y x
  | [], [] => by simp [lexC]
  | [], _ :: _ => by simp [lexC]
  | _ :: _, [] => by simp [lexC]
  | a :: x, b :: y => by
    simp only [lexC]
    by_cases h1 : a < b
    · rw [if_pos h1, if_neg (by omega), if_pos h1]; omega
    · by_cases h2 : b < a
      · rw [if_neg h1, if_pos h2, if_pos h2]; omega
      · rw [if_neg h1, if_neg h2, if_neg h2, if_neg h1]; exact lexC_anti x y
theorem lexC_trans : ∀ x y z : List Int, lexC x y < 0 → lexC y z < 0 → lexC x z < 0
  | [], _, _, h, _ => by simp [lexC] at h
  | _ :: _, [], _, h, _ => by simp [lexC] at h
  | _ :: _, _ :: _, [], _, h => by simp [lexC] at h
  | a :: x, b :: y, d :: z, h1, h2 => by
    simp only [lexC] at *
    by_cases e1 : a < b
    · by_cases e2 : b < d
      · rw [if_pos (by omega)]; omega
      · rw [if_neg e2] at h2
        by_cases e3 : d < b
        · rw [if_pos e3] at h2; omega
        · rw [if_pos (by omega)]; omega
    · rw [if_neg e1] at h1
      by_cases e4 : b < a
      · rw [if_pos e4] at h1; omega
      · rw [if_neg e4] at h1
        by_cases e2 : b < d
        · rw [if_pos (by omega)]; omega
        · rw [if_neg e2] at h2
          by_cases e3 : d < b
          · rw [if_pos e3] at h2; omega
          · rw [if_neg e3] at h2
            rw [if_neg (by omega), if_neg (by omega)]
            exact lexC_trans x y z h1 h2
theorem totL : Tot cmpL where
  zero _ _ := cmpL_zero
  anti a b := by
    unfold cmpL
    by_cases h : a.length = b.length
    · rw [if_pos h, if_pos h.symm]; exact lexC_anti a b
    · rw [if_neg h, if_neg (fun e : b.length = a.length => h e.symm)]
      by_cases h2 : a.length < b.length
      · rw [if_pos h2, if_neg (by omega)]; omega
      · rw [if_neg h2, if_pos (by omega)]; omega
  trans a b d h1 h2 := by
    unfold cmpL at *
    by_cases e1 : a.length = b.length
    · rw [if_pos e1] at h1
      by_cases e2 : b.length = d.length
      · rw [if_pos e2] at h2
        rw [if_pos (by omega)]; exact lexC_trans a b d h1 h2
      · rw [if_neg e2] at h2
        by_cases e3 : b.length < d.length
        · rw [if_neg (by omega), if_pos (by omega)]; omega
        · rw [if_neg e3] at h2; omega
    · rw [if_neg e1] at h1
      by_cases e3 : a.length < b.length
      · by_cases e2 : b.length = d.length
        · rw [if_neg (by omega), if_pos (by omega)]; omega
        · rw [if_neg e2] at h2
          by_cases e4 : b.length < d.length
          · rw [if_neg (by omega), if_pos (by omega)]; omega
          · rw [if_neg e4] at h2; omega
      · rw [if_neg e3] at h1; omega

theorem byte_lt {a b : UInt8} : a < b ↔ a.toNat < b.toNat := UInt8.lt_iff_toNat_lt
theorem byte_eq {a b : UInt8} (h1 : ¬ a < b) (h2 : ¬ b < a) : a = b := by
  rw [byte_lt] at h1 h2
  exact UInt8.toNat_inj.1 (by omega)
theorem cb_self : ∀ x : List UInt8, Lib.compareBytes x x = 0
  | [] => rfl
  | a :: x => by
    have : ¬ a < a := by rw [byte_lt]; omega
    rw [Lib.compareBytes, if_neg this, if_neg this]; exact cb_self x
theorem cb_zero : ∀ x y : List UInt8, Lib.compareBytes x y = 0 → x = y
  | [], [], _ => rfl
  | [], _ :: _, h => by simp [Lib.compareBytes] at h
  | _ :: _, [], h => by simp [Lib.compareBytes] at h
  | a :: x, b :: y, h => by
    rw [Lib.compareBytes] at h
    by_cases h1 : a < b
    · rw [if_pos h1] at h; omega
    · rw [if_neg h1] at h
      by_cases h2 : b < a
      · rw [if_pos h2] at h; omega
      · rw [if_neg h2] at h
        rw [cb_zero x y h, byte_eq h1 h2]
theorem cb_anti : ∀ x y : List UInt8, Lib.compareBytes x y < 0 ↔ 0 < Lib.compareBytes y x
  | [], [] => by simp [Lib.compareBytes]
  | [], _ :: _ => by simp [Lib.compareBytes]
  | _ :: _, [] => by simp [Lib.compareBytes]
  | a :: x, b :: y => by
    rw [Lib.compareBytes, Lib.compareBytes]
    by_cases h1 : a < b
    · have h1' := byte_lt.1 h1
      rw [if_pos h1, if_neg (by rw [byte_lt]; omega), if_pos h1]; omega
    · by_cases h2 : b < a
      · rw [if_neg h1, if_pos h2, if_pos h2]; omega
      · rw [if_neg h1, if_neg h2, if_neg h2, if_neg h1]; exact cb_anti x y
theorem cb_trans : ∀ x y z : List UInt8, Lib.compareBytes x y < 0 → Lib.compareBytes y z < 0 → Lib.compareBytes x z < 0
  | [], _, [], h1, h2 => by
    rename_i y
    cases y <;> simp [Lib.compareBytes] at h1 h2
  | [], _, _ :: _, _, _ => by simp [Lib.compareBytes]
  | _ :: _, [], _, h, _ => by simp [Lib.compareBytes] at h
  | _ :: _, _ :: _, [], _, h => by simp [Lib.compareBytes] at h
  | a :: x, b :: y, d :: z, h1, h2 => by
    rw [Lib.compareBytes] at *
    simp only [byte_lt] at *
    by_cases e1 : a.toNat < b.toNat
    · by_cases e2 : b.toNat < d.toNat
      · rw [if_pos (by omega)]; omega
      · rw [if_neg e2] at h2
        by_cases e3 : d.toNat < b.toNat
        · rw [if_pos e3] at h2; omega
        · rw [if_pos (by omega)]; omega
    · rw [if_neg e1] at h1
      by_cases e4 : b.toNat < a.toNat
      · rw [if_pos e4] at h1; omega
      · rw [if_neg e4] at h1
        by_cases e2 : b.toNat < d.toNat
        · rw [if_pos (by omega)]; omega
        · rw [if_neg e2] at h2
          by_cases e3 : d.toNat < b.toNat
          · rw [if_pos e3] at h2; omega
          · rw [if_neg e3] at h2
            rw [if_neg (by omega), if_neg (by omega)]
            exact cb_trans x y z h1 h2

/-- The order of texts: by their bytes. -/
def cmpB (a b : ByteArray) : Int := Lib.compareBytes a.data.toList b.data.toList
theorem bytes_inj {a b : ByteArray} (h : a.data.toList = b.data.toList) : a = b := by
  cases a; cases b; simp at h; subst h; rfl
theorem totB : Tot cmpB where
  zero a b := ⟨fun h => bytes_inj (cb_zero _ _ h), fun h => by subst h; exact cb_self _⟩
  anti a b := cb_anti _ _
  trans a b d := cb_trans _ _ _

/-- An ending with its tags; with its count. -/
abbrev Ky := List Int × ByteArray
abbrev En := List Int × ByteArray × Int
def kyE (e : En) : Ky := (e.1, e.2.1)
def ordK (a b : Ky) : Int := if cmpL a.1 b.1 = 0 then cmpB a.2 b.2 else cmpL a.1 b.1
theorem totK : Tot ordK where
  zero a b := by
    unfold ordK
    constructor
    · intro h
      split at h
      · rename_i h0
        have e1 := (totL.zero _ _).1 h0
        have e2 := (totB.zero _ _).1 h
        exact Prod.ext e1 e2
      · rename_i h0; exact absurd h h0
    · rintro rfl
      rw [if_pos (totL.self _)]; exact totB.self _
  anti a b := by
    unfold ordK
    by_cases h : cmpL a.1 b.1 = 0
    · have h' := (totL.zero _ _).1 h
      rw [if_pos h, if_pos ((totL.zero _ _).2 h'.symm)]; exact totB.anti _ _
    · have h' : ¬ cmpL b.1 a.1 = 0 := fun e => h ((totL.zero _ _).2 ((totL.zero _ _).1 e).symm)
      rw [if_neg h, if_neg h']; exact totL.anti _ _
  trans a b d h1 h2 := by
    unfold ordK at *
    by_cases e1 : cmpL a.1 b.1 = 0
    · have e1' := (totL.zero _ _).1 e1
      rw [if_pos e1] at h1
      rw [e1']
      by_cases e2 : cmpL b.1 d.1 = 0
      · rw [if_pos e2] at h2 ⊢
        exact totB.trans _ _ _ h1 h2
      · rw [if_neg e2] at h2 ⊢; exact h2
    · rw [if_neg e1] at h1
      by_cases e2 : cmpL b.1 d.1 = 0
      · have e2' := (totL.zero _ _).1 e2
        rw [← e2', if_neg e1]; exact h1
      · rw [if_neg e2] at h2
        have h3 := totL.trans _ _ _ h1 h2
        rw [if_neg (by omega)]; exact h3

/-- Two lists in a strict order with the same members are one list. -/
theorem sorted_ext {α : Type} {r : α → α → Prop} (ha : ∀ a b, r a b → ¬ r b a) : ∀ g g' : List α, g.Pairwise r → g'.Pairwise r → (∀ e, e ∈ g ↔ e ∈ g') → g = g'
  | [], [], _, _, _ => rfl
  | [], b :: s, _, _, h => by have := (h b).2 (by simp); simp at this
  | a :: r', [], _, _, h => by have := (h a).1 (by simp); simp at this
  | a :: x, b :: y, h1, h2, h => by
    obtain ⟨p1, p2⟩ := List.pairwise_cons.1 h1
    obtain ⟨q1, q2⟩ := List.pairwise_cons.1 h2
    have e : a = b := by
      rcases List.mem_cons.1 ((h a).1 (by simp)) with e | e
      · exact e
      · rcases List.mem_cons.1 ((h b).2 (by simp)) with e' | e'
        · exact e'.symm
        · exact absurd (p1 b e') (ha _ _ (q1 a e))
    subst e
    have : x = y := sorted_ext ha x y p2 q2 fun e => by
      constructor
      · intro he
        rcases List.mem_cons.1 ((h e).1 (by simp [he])) with e' | e'
        · subst e'; exact absurd (p1 _ he) (ha _ _ (p1 _ he))
        · exact e'
      · intro he
        rcases List.mem_cons.1 ((h e).2 (by simp [he])) with e' | e'
        · subst e'; exact absurd (q1 _ he) (ha _ _ (q1 _ he))
        · exact e'
    rw [this]

/-- Elements in strict order. -/
def rE (a b : En) : Prop := ordK (kyE a) (kyE b) < 0
theorem rE_asym (a b : En) (h : rE a b) : ¬ rE b a := totK.asym h
def SK (g : List En) : Prop := g.Pairwise rE

/-- An event counted in. -/
def insE (x : Ky) : List En → List En
  | [] => [(x.1, x.2, 1)]
  | y :: r => if ordK (kyE y) x < 0 then y :: insE x r else if ordK (kyE y) x = 0 then (y.1, y.2.1, y.2.2 + 1) :: r else (x.1, x.2, 1) :: y :: r
def learnE (evs : List Ky) : List En := evs.foldl (fun g x => insE x g) []

theorem ins_mem {x : Ky} : ∀ {g : List En}, SK g → ∀ e, e ∈ insE x g ↔ (kyE e ≠ x ∧ e ∈ g) ∨ (kyE e = x ∧ ((∃ c, (x.1, x.2, c) ∈ g ∧ e.2.2 = c + 1) ∨ ((∀ c, (x.1, x.2, c) ∉ g) ∧ e.2.2 = 1)))
  | [], _, e => by
    obtain ⟨e1, e2, e3⟩ := e
    obtain ⟨x1, x2⟩ := x
    simp [insE, kyE]
    exact and_assoc.symm
  | y :: r, h, e => by
    obtain ⟨p1, p2⟩ := List.pairwise_cons.1 h
    have ih := ins_mem (x := x) p2 e
    rw [insE]
    by_cases c1 : ordK (kyE y) x < 0
    · rw [if_pos c1, List.mem_cons, ih]
      have hy : kyE y ≠ x := totK.ne c1
      have hn : ∀ c, (x.1, x.2, c) ≠ y := fun c e => hy (by rw [← e]; rfl)
      constructor
      · rintro (rfl | ⟨h1, h2⟩ | ⟨h1, ⟨c, h2, h3⟩ | ⟨h2, h3⟩⟩)
        · exact .inl ⟨hy, by simp⟩
        · exact .inl ⟨h1, by simp [h2]⟩
        · exact .inr ⟨h1, .inl ⟨c, by simp [h2], h3⟩⟩
        · exact .inr ⟨h1, .inr ⟨fun c hc => by
            rcases List.mem_cons.1 hc with e | e
            · exact hn c e
            · exact h2 c e, h3⟩⟩
      · rintro (⟨h1, h2⟩ | ⟨h1, ⟨c, h2, h3⟩ | ⟨h2, h3⟩⟩)
        · rcases List.mem_cons.1 h2 with e | e
          · exact .inl e
          · exact .inr (.inl ⟨h1, e⟩)
        · rcases List.mem_cons.1 h2 with e | e
          · exact absurd e (hn c)
          · exact .inr (.inr ⟨h1, .inl ⟨c, e, h3⟩⟩)
        · exact .inr (.inr ⟨h1, .inr ⟨fun c hc => h2 c (by simp [hc]), h3⟩⟩)
    · rw [if_neg c1]
      by_cases c2 : ordK (kyE y) x = 0
      · rw [if_pos c2, List.mem_cons]
        have hy : kyE y = x := (totK.zero _ _).1 c2
        have hr : ∀ z ∈ r, kyE z ≠ x := fun z hz e => by
          have := p1 z hz
          unfold rE at this
          rw [e, hy, totK.self] at this
          omega
        have hyx : (x.1, x.2, y.2.2) = y := by rw [← hy]; rfl
        constructor
        · rintro (rfl | h1)
          · exact .inr ⟨by rw [← hy]; rfl, .inl ⟨y.2.2, by rw [hyx]; simp, rfl⟩⟩
          · exact .inl ⟨hr e h1, by simp [h1]⟩
        · rintro (⟨h1, h2⟩ | ⟨h1, ⟨c, h2, h3⟩ | ⟨h2, h3⟩⟩)
          · rcases List.mem_cons.1 h2 with e' | e'
            · exact absurd (e' ▸ hy) h1
            · exact .inr e'
          · rcases List.mem_cons.1 h2 with e' | e'
            · left
              rw [← hyx] at e'
              injection e' with _ e'; injection e' with _ e'
              have k1 : e.1 = y.1 := by have := congrArg Prod.fst (h1.trans hy.symm); exact this
              have k2 : e.2.1 = y.2.1 := by have := congrArg Prod.snd (h1.trans hy.symm); exact this
              exact Prod.ext k1 (Prod.ext k2 (by simp only; rw [h3, e']))
            · exact absurd rfl (hr _ e')
          · exact absurd (show (x.1, x.2, y.2.2) ∈ y :: r by rw [hyx]; simp) (h2 _)
      · rw [if_neg c2, List.mem_cons]
        have c3 : ordK x (kyE y) < 0 := (totK.anti _ _).2 (by omega)
        have hall : ∀ z ∈ y :: r, kyE z ≠ x := fun z hz e' => by
          rcases List.mem_cons.1 hz with e2 | e2
          · subst e2; exact c2 ((totK.zero _ _).2 e')
          · have := totK.trans _ _ _ c3 (p1 z e2)
            rw [e', totK.self] at this; omega
        constructor
        · rintro (rfl | h1)
          · exact .inr ⟨rfl, .inr ⟨fun c hc => hall _ hc rfl, rfl⟩⟩
          · exact .inl ⟨hall e h1, h1⟩
        · rintro (⟨h1, h2⟩ | ⟨h1, ⟨c, h2, h3⟩ | ⟨h2, h3⟩⟩)
          · exact .inr h2
          · exact absurd rfl (hall _ h2)
          · left
            rw [← h1]
            exact Prod.ext rfl (Prod.ext rfl h3)

theorem ins_sorted {x : Ky} : ∀ {g : List En}, SK g → SK (insE x g)
  | [], _ => by simp [insE, SK]
  | y :: r, h => by
    obtain ⟨p1, p2⟩ := List.pairwise_cons.1 h
    have ih := ins_sorted (x := x) p2
    rw [insE]
    by_cases c1 : ordK (kyE y) x < 0
    · rw [if_pos c1]
      refine List.pairwise_cons.2 ⟨fun e he => ?_, ih⟩
      rcases (ins_mem p2 e).1 he with ⟨_, h2⟩ | ⟨h1, _⟩
      · exact p1 e h2
      · show ordK (kyE y) (kyE e) < 0
        rw [h1]; exact c1
    · rw [if_neg c1]
      by_cases c2 : ordK (kyE y) x = 0
      · rw [if_pos c2]
        exact List.pairwise_cons.2 ⟨fun e he => p1 e he, p2⟩
      · rw [if_neg c2]
        have c3 : ordK x (kyE y) < 0 := (totK.anti _ _).2 (by omega)
        exact List.pairwise_cons.2 ⟨fun e he => by
          rcases List.mem_cons.1 he with rfl | e2
          · exact c3
          · exact totK.trans _ _ _ c3 (p1 e e2), h⟩

/-- How often an event stands in a list. -/
def cnt (evs : List Ky) (k : Ky) : Nat := evs.countP fun x => decide (x = k)
theorem cnt_append (a b : List Ky) (k : Ky) : cnt (a ++ b) k = cnt a k + cnt b k := List.countP_append
theorem cnt_pos {evs : List Ky} {k : Ky} : 0 < cnt evs k ↔ k ∈ evs := by
  unfold cnt
  rw [List.countP_pos_iff]
  constructor
  · rintro ⟨a, h1, h2⟩
    have : a = k := by simpa using h2
    exact this ▸ h1
  · intro h
    exact ⟨k, h, by simp⟩
/-- g holds the events, each with its count, in strict order. -/
def Lrn (evs : List Ky) (g : List En) : Prop := SK g ∧ ∀ e : En, e ∈ g ↔ 0 < cnt evs (kyE e) ∧ e.2.2 = cnt evs (kyE e)
theorem lrn_nil : Lrn [] [] := ⟨List.Pairwise.nil, fun e => by simp [cnt]⟩
theorem lrn_step {evs : List Ky} {g : List En} {x : Ky} (h : Lrn evs g) : Lrn (evs ++ [x]) (insE x g) := by
  refine ⟨ins_sorted h.1, fun e => ?_⟩
  rw [ins_mem h.1 e, cnt_append]
  by_cases hx : kyE e = x
  · have h1 : cnt [x] (kyE e) = 1 := by rw [hx]; simp [cnt]
    rw [h1]
    constructor
    · rintro (⟨h2, _⟩ | ⟨_, ⟨c, h2, h3⟩ | ⟨h2, h3⟩⟩)
      · exact absurd hx h2
      · have := ((h.2 _).1 h2).2
        simp only [kyE] at this hx
        refine ⟨by omega, ?_⟩
        rw [h3]
        have e2 : cnt evs (e.1, e.2.1) = cnt evs (x.1, x.2) := by rw [hx]
        simp only [kyE]
        omega
      · have h0 : cnt evs (kyE e) = 0 := by
          by_cases h0 : 0 < cnt evs (kyE e)
          · exact absurd ((h.2 (x.1, x.2, (cnt evs (kyE e) : Int))).2 (by
              have : kyE (x.1, x.2, (cnt evs (kyE e) : Int)) = kyE e := by rw [hx]; rfl
              rw [this]; exact ⟨h0, rfl⟩)) (h2 _)
          · omega
        rw [h0, h3]; omega
    · rintro ⟨h2, h3⟩
      refine .inr ⟨hx, ?_⟩
      by_cases h0 : 0 < cnt evs (kyE e)
      · refine .inl ⟨cnt evs (kyE e), (h.2 _).2 ?_, by omega⟩
        have : kyE (x.1, x.2, (cnt evs (kyE e) : Int)) = kyE e := by rw [hx]; rfl
        rw [this]; exact ⟨h0, rfl⟩
      · refine .inr ⟨fun c hc => ?_, by omega⟩
        have := ((h.2 _).1 hc).1
        have e2 : kyE (x.1, x.2, c) = kyE e := by rw [hx]; rfl
        rw [e2] at this; omega
  · have h1 : cnt [x] (kyE e) = 0 := by
      simp [cnt]
      exact fun e' => hx e'.symm
    rw [h1]
    constructor
    · rintro (⟨_, h2⟩ | ⟨h2, _⟩)
      · have := (h.2 e).1 h2; simpa using this
      · exact absurd h2 hx
    · intro h2
      exact .inl ⟨hx, (h.2 e).2 (by simpa using h2)⟩
theorem lrn_foldl : ∀ (evs evs' : List Ky) (g : List En), Lrn evs' g → Lrn (evs' ++ evs) (evs.foldl (fun g x => insE x g) g)
  | [], evs', g, h => by simpa using h
  | x :: r, evs', g, h => by
    have := lrn_foldl r (evs' ++ [x]) (insE x g) (lrn_step h)
    simpa using this
theorem lrn_learn (evs : List Ky) : Lrn evs (learnE evs) := by
  have := lrn_foldl evs [] [] lrn_nil
  rwa [List.nil_append] at this
theorem lrn_unique {evs evs' : List Ky} {g g' : List En} (h : Lrn evs g) (h' : Lrn evs' g') (hc : ∀ k, cnt evs k = cnt evs' k) : g = g' :=
  sorted_ext rE_asym g g' h.1 h'.1 fun e => by rw [h.2, h'.2, hc]

/-- The number of elements of a learned list is at most that of the events. -/
theorem ins_len {x : Ky} : ∀ {g : List En}, (insE x g).length ≤ g.length + 1
  | [] => by simp [insE]
  | y :: r => by
    have := ins_len (x := x) (g := r)
    rw [insE]
    split
    · simp; omega
    · split <;> simp
theorem learn_len : ∀ (evs : List Ky) (g : List En), (evs.foldl (fun g x => insE x g) g).length ≤ g.length + evs.length
  | [], g => by simp
  | x :: r, g => by
    have h1 := learn_len r (insE x g)
    have h2 := ins_len (x := x) (g := g)
    simp only [List.foldl_cons, List.length_cons]
    omega
end Go.Proofs.YtonadloonidmjaaDoor

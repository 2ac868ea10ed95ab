/- The map of onsets: its keys, a look-up; the layout of the program's 'read'. -/
import Derived.Test.YtockfkmemoggiaaS3
namespace Go.Proofs.Ytockfkmemoggiaa
open Go.RowKit Go.Maps
open Pl

theorem tsize : Try.prog.types.size = 95 := by kernel_rfl
theorem laidOut : laidOutB Try.prog = true := by kernel_rfl
theorem keyed72 : Keyed Try.prog 72 := Keyed.of_law (deep_law_laid laidOut (m := 3) (by omega) (of_decide_eq_true (by kernel_rfl)) (by kernel_rfl) (by rw [Try.underlying72]))
theorem ktype72 : Try.prog.keyType 72 = true := by kernel_rfl
theorem cells72 : Try.prog.cellsOf 72 = 4 := by kernel_rfl
theorem cells3 : Try.prog.cellsOf 3 = 1 := by kernel_rfl

theorem wfI {y : Int} (h : inI64 y) : (Lit.int .i64 y).wf = true := WalkArith.wf_i64 (by unfold inI64 at h; omega)
theorem klInt (d : Nat) {y : Int} (h : inI64 y) : Try.prog.keyLits (d + 1) 3 [.int .i64 y] = some [.int .i64 y] := by
  have := wfI h
  simp [Program.keyLits, Try.underlying3, this]
theorem klArr (n : Nat) {a b c d : Int} (ha : inI64 a) (hb : inI64 b) (hc : inI64 c) (hd : inI64 d) :
    Try.prog.keyLits (n + 2) 72 [.int .i64 a, .int .i64 b, .int .i64 c, .int .i64 d] = some [.int .i64 a, .int .i64 b, .int .i64 c, .int .i64 d] := by
  rw [Program.keyLits.eq_def]
  simp only [Try.underlying72, cells72, cells3]
  simp [List.range_succ, klInt n ha, klInt n hb, klInt n hc, klInt n hd]
theorem keyArr {a b c d : Int} (ha : inI64 a) (hb : inI64 b) (hc : inI64 c) (hd : inI64 d) : ∃ l, keyOf Try.prog 72 (.agg #[.int .i64 a, .int .i64 b, .int .i64 c, .int .i64 d]) = some l := by
  unfold keyOf
  rw [Try.underlying72, tsize]
  have hf : (Value.agg #[.int .i64 a, .int .i64 b, .int .i64 c, .int .i64 d]).formed Try.prog 72 = true := by simp [Value.formed, Try.underlying72, cells72]
  simp only [ktype72, hf, Bool.and_self, if_true]
  exact ⟨_, by rw [show Try.prog.keyLits (95 + 1) 72 (Value.cells (.agg #[.int .i64 a, .int .i64 b, .int .i64 c, .int .i64 d])).toList = _ from klArr 94 ha hb hc hd]; rfl⟩


/-- A list that is an onset's: one to four symbols, none 0. -/
def OnP (l : List Int) : Prop := 1 ≤ l.length ∧ l.length ≤ 4 ∧ ∀ y ∈ l, 1 ≤ y ∧ y ≤ 500
theorem onV_inj {l m : List Int} (hl : OnP l) (hm : OnP m) (h : onV l = onV m) : l = m := by
  obtain ⟨l1, l4, lz⟩ := hl
  obtain ⟨m1, m4, mz⟩ := hm
  unfold onV at h
  injection h with h
  have h' := congrArg Array.toList h
  simp only [List.cons.injEq, Value.int.injEq, true_and, and_true] at h'
  obtain ⟨h0, h1, h2, h3⟩ := h'
  have key : ∀ i, i < 4 → l.getD i 0 = m.getD i 0 := by
    intro i hi
    match i, hi with
    | 0, _ => exact h0
    | 1, _ => exact h1
    | 2, _ => exact h2
    | 3, _ => exact h3
  have pos : ∀ (l : List Int), (∀ y ∈ l, 1 ≤ y ∧ y ≤ 500) → ∀ i, i < l.length → 1 ≤ l.getD i 0 := by
    intro l hl i hi
    rw [List.getD_eq_getElem?_getD, List.getElem?_eq_getElem hi]
    exact (hl _ (List.getElem_mem hi)).1
  have zer : ∀ (l : List Int) i, l.length ≤ i → l.getD i 0 = 0 := by
    intro l i hi
    rw [List.getD_eq_getElem?_getD, List.getElem?_eq_none hi]; rfl
  have hlen : l.length = m.length := by
    rcases Nat.lt_trichotomy l.length m.length with hlt | heq | hgt
    · have a1 := key l.length (by omega)
      have a2 := zer l l.length (Nat.le_refl _)
      have a3 := pos m mz l.length hlt
      omega
    · exact heq
    · have a1 := key m.length (by omega)
      have a2 := zer m m.length (Nat.le_refl _)
      have a3 := pos l lz m.length hgt
      omega
  apply List.ext_getElem hlen
  intro i hi hi'
  have := key i (by omega)
  rw [List.getD_eq_getElem?_getD, List.getD_eq_getElem?_getD, List.getElem?_eq_getElem hi, List.getElem?_eq_getElem hi'] at this
  exact this

theorem keyOn {l : List Int} (h : OnP l) : ∃ x, keyOf Try.prog 72 (onV l) = some x := by
  have g : ∀ i, inI64 (l.getD i 0) := by
    intro i
    rw [List.getD_eq_getElem?_getD]
    cases hi : l[i]? with
    | none => simp [inI64]
    | some y => have := h.2.2 y (List.mem_of_getElem? hi); simp [inI64]; omega
  exact keyArr (g 0) (g 1) (g 2) (g 3)

def onE (L : List (List Int)) : List (Value × Value) := L.map fun o => (onV o, .bool true)
theorem onE_snoc (L : List (List Int)) (o : List Int) : onE L ++ [(onV o, .bool true)] = onE (L ++ [o]) := by unfold onE; simp

def OnsV (w : World) (v : Value) (L : List (List Int)) : Prop := (∀ o ∈ L, OnP o) ∧ ∃ b, v = .map (some b) ∧ Mp Try.prog 72 w b (onE L)
theorem OnsV.after {w w' : World} {v : Value} {L : List (List Int)} (h : OnsV w v L) (hb : Bw w w') : OnsV w' v L :=
  let ⟨h0, b, h1, h2⟩ := h
  ⟨h0, b, h1, h2.after hb⟩
theorem OnsV.dn {w : World} {v : Value} {L : List (List Int)} (h : OnsV w v L) (n : Nat) : OnsV (w.drewN n) v L := h.after (Dr.n w n).bw
theorem OnsV.alloc {w : World} {v : Value} {L : List (List Int)} (h : OnsV w v L) (o : Obj) : OnsV (w.alloc o) v L := h.after ((Below.refl _ _).alloc (Nat.le_refl _) o)

theorem onE_new {L : List (List Int)} {o : List Int} (hL : ∀ o ∈ L, OnP o) (ho : OnP o) (h : listedB L o = false) : ∀ p ∈ onE L, p.1 ≠ onV o := by
  intro p hp e
  obtain ⟨m, hm, rfl⟩ := List.mem_map.1 hp
  have := onV_inj (hL m hm) ho e
  subst this
  unfold listedB at h; simp at h; exact h hm

theorem OnsV.look {w : World} {v : Value} {L : List (List Int)} (h : OnsV w v L) {o : List Int} (ho : OnP o) :
    (Instr.lookup 45 v (onV o) false).run Try.prog w = .ok (.bool (listedB L o)) w := by
  obtain ⟨hL, b, rfl, hM⟩ := h
  obtain ⟨lx, hx⟩ := keyOn ho
  cases hb : listedB L o
  · rw [hM.look_none keyed72 Try.underlying45 hx (zero4 w) (onE_new hL ho hb)]; simp
  · have hm : o ∈ L := by unfold listedB at hb; simpa using hb
    rw [hM.look_some keyed72 Try.underlying45 hx (v := .bool true) (List.mem_map.2 ⟨o, hm, rfl⟩)]; simp
end Go.Proofs.Ytockfkmemoggiaa

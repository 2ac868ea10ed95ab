/- The contracts of the program's readers of expressions: of an expression only its shape is told. -/
import Derived.Test.YtockfkmemoggiaaProg
import Derived.Test.YtockfkmemoggiaaApp
import Derived.Outline
import Derived.Lib.Hide
namespace Go.Proofs.Ytockfkmemoggiaa
open Go.RowKit

/-- The cells of an expression, told by their kinds. -/
def XCells (cs : List Value) : Prop := ∃ (k a b : Int) (W : ByteArray) (n m : Int) (A : Option Addr) (l c : Nat), cs = [.int .i64 k, .int .i64 a, .int .i64 b, .string W, .int .i64 n, .int .i64 m, .slice A l c]
def tX : Ty Unit where
  size := 7
  rep := fun _ _ cs _ => XCells cs
  pos := by decide
  len := by rintro _ _ _ _ ⟨_, _, _, _, _, _, _, _, _, rfl⟩; rfl
  one := by
    rintro _ _ _ _ ⟨_, _, _, _, _, _, _, _, _, rfl⟩ u hu
    simp at hu
    rcases hu with rfl | rfl | rfl | rfl | rfl | rfl | rfl <;> rfl
  keep := fun h _ => h
  lt := fun h => h
/-- The value of an expression. -/
def XVal (v : Value) : Prop := ∃ (k a b : Int) (W : ByteArray) (n m : Int) (A : Option Addr) (l c : Nat), v = .agg #[.int .i64 k, .int .i64 a, .int .i64 b, .string W, .int .i64 n, .int .i64 m, .slice A l c]

theorem infoX : (Try.prog.info? 61).map (fun i => (i.size, i.bytes)) = some (7, 80) := by kernel_rfl

theorem XVal.mk {k a b : Int} {W : ByteArray} {n m : Int} {A : Option Addr} {l c : Nat} : XVal (.agg #[.int .i64 k, .int .i64 a, .int .i64 b, .string W, .int .i64 n, .int .i64 m, .slice A l c]) := ⟨_, _, _, _, _, _, _, _, _, rfl⟩
theorem XCells.mk {k a b : Int} {W : ByteArray} {n m : Int} {A : Option Addr} {l c : Nat} : XCells [.int .i64 k, .int .i64 a, .int .i64 b, .string W, .int .i64 n, .int .i64 m, .slice A l c] := ⟨_, _, _, _, _, _, _, _, _, rfl⟩

/-- An element of a list of expressions: its cells. -/
theorem sl_x {w : World} {D : Nat → Prop} {A : Option Addr} {n c : Nat} {xs : List Unit} (h : Sl tX w D (.slice A n c) xs) {k : Nat} (hk : k < xs.length) :
    ∃ b off, A = some ⟨b, off, none⟩ ∧ ∃ (k' a' b' : Int) (W : ByteArray) (n' m' : Int) (A' : Option Addr) (l' c' : Nat),
      w.cell? ⟨b, off + k * 7, none⟩ = some (.int .i64 k') ∧ w.cell? ⟨b, off + k * 7 + 1, none⟩ = some (.int .i64 a') ∧ w.cell? ⟨b, off + k * 7 + 2, none⟩ = some (.int .i64 b') ∧ w.cell? ⟨b, off + k * 7 + 3, none⟩ = some (.string W) ∧
      w.cell? ⟨b, off + k * 7 + 4, none⟩ = some (.int .i64 n') ∧ w.cell? ⟨b, off + k * 7 + 5, none⟩ = some (.int .i64 m') ∧ w.cell? ⟨b, off + k * 7 + 6, none⟩ = some (.slice A' l' c') := by
  obtain ⟨b, off, c, cs, h1, _, ⟨k', a', b', W, n', m', A', l', c', rfl⟩, h3⟩ := h.cells (List.getElem?_eq_getElem hk)
  injection h1 with h1
  exact ⟨b, off, h1, k', a', b', W, n', m', A', l', c', h3 0 _ rfl, h3 1 _ rfl, h3 2 _ rfl, h3 3 _ rfl, h3 4 _ rfl, h3 5 _ rfl, h3 6 _ rfl⟩

theorem symbol_any {s : Int} {w : World} : Calls Try.prog 43 #[.int .i64 s] w fun e w' => (∃ v, e = .returned v ∧ XVal v) ∧ Bw w w' := by
  go_enter Try.func43, Try.ntmps43
  go_wp2
  exact bodyPost_ret (v := .agg #[.int .i64 2, .int .i64 s, .int .i64 s, .string ⟨#[]⟩, .int .i64 0, .int .i64 0, .slice none 0 0]) (by simp [results, Try.results43, go_sem]) rfl ⟨⟨_, rfl, .mk⟩, (Below.refl _ _).alloc (Nat.le_refl _) _⟩

theorem joined_any {k : Int} {v : Value} {l : List Unit} {w : World} (h : Rd tX w v l) : Calls Try.prog 33 #[.int .i64 k, v] w fun e w' => (∃ v, e = .returned v ∧ XVal v) ∧ Bw w w' := by
  have hm := h.len_le
  obtain ⟨A, c, rfl, _, _⟩ := h.form
  by_cases h0 : l.length = 0
  · rw [h0]
    clear h hm
    go_enter Try.func33, Try.ntmps33
    go_wp2
    exact bodyPost_ret (v := .agg #[.int .i64 4, .int .i64 0, .int .i64 0, .string ⟨#[]⟩, .int .i64 0, .int .i64 0, .slice none 0 0]) (by simp [results, Try.results33, go_sem]) rfl ⟨⟨_, rfl, .mk⟩, (Below.refl _ _).alloc (Nat.le_refl _) _⟩
  by_cases h1 : l.length = 1
  · have hB : Bw w (w.alloc (.cells #[.int .i64 0, .int .i64 0, .int .i64 0, .string ⟨#[]⟩, .int .i64 0, .int .i64 0, .slice none 0 0] 61)) := (Below.refl _ _).alloc (Nat.le_refl _) _
    obtain ⟨b, off, rfl, k', a', b', W, n', m', A', l', c', c0, c1, c2, c3, c4, c5, c6⟩ := sl_x (h.after hB) (k := 0) (by omega)
    simp only [Nat.zero_mul, Nat.add_zero] at c0 c1 c2 c3 c4 c5 c6
    have hlt : b < w.heap.size := by
      obtain ⟨b2, o2, _, _, e3, hD, _⟩ := h.cells (List.getElem?_eq_getElem (show 0 < l.length by omega))
      injection e3 with e3
      injection e3 with e3
      injection e3 with e3
      subst e3
      exact hD
    rw [h1]
    clear h hm
    go_enter Try.func33, Try.ntmps33
    go_wp2
    exact bodyPost_ret (v := .agg #[.int .i64 k', .int .i64 a', .int .i64 b', .string W, .int .i64 n', .int .i64 m', .slice A' l' c']) (by simp [results, Try.results33, go_sem]) rfl ⟨⟨_, rfl, .mk⟩, (Below.refl _ _).alloc (Nat.le_refl _) _⟩
  · have e0 : ((l.length : Int) == 0) = false := by simpa using h0
    have e1 : ((l.length : Int) == 1) = false := by
      rw [beq_eq_false_iff_ne]; omega
    clear h
    go_enter Try.func33, Try.ntmps33
    go_wp2
    exact bodyPost_ret (v := .agg #[.int .i64 k, .int .i64 0, .int .i64 0, .string ⟨#[]⟩, .int .i64 0, .int .i64 0, .slice A l.length c]) (by simp [results, Try.results33, go_sem]) rfl ⟨⟨_, rfl, .mk⟩, (Below.refl _ _).alloc (Nat.le_refl _) _⟩

/-- Of two parts or more: nothing is read. -/
theorem joined_two {k : Int} {A : Option Addr} {n c : Nat} {w : World} (h : 2 ≤ n) (hn : n ≤ 1000000) : Calls Try.prog 33 #[.int .i64 k, .slice A n c] w fun e w' => (∃ v, e = .returned v ∧ XVal v) ∧ Bw w w' := by
  have e0 : ((n : Int) == 0) = false := by rw [beq_eq_false_iff_ne]; omega
  have e1 : ((n : Int) == 1) = false := by rw [beq_eq_false_iff_ne]; omega
  go_enter Try.func33, Try.ntmps33
  go_wp2
  exact bodyPost_ret (v := .agg #[.int .i64 k, .int .i64 0, .int .i64 0, .string ⟨#[]⟩, .int .i64 0, .int .i64 0, .slice A n c]) (by simp [results, Try.results33, go_sem]) rfl ⟨⟨_, rfl, .mk⟩, (Below.refl _ _).alloc (Nat.le_refl _) _⟩

theorem gr_alloc {a b : World} {r : Option Nat} (h : a.grownBy b r) (o : Obj) : a.grownBy (b.alloc o) r :=
  ⟨h.os, h.tape, h.output, Nat.le_trans h.size (by simp), fun k hk hr => (Below.heap_alloc b o k (Nat.lt_of_lt_of_le hk h.size)).trans (h.block k hk hr)⟩
theorem gr_drew {a b : World} {r : Option Nat} (h : a.grownBy b r) : a.grownBy b.drew r := ⟨h.os, h.tape, h.output, h.size, h.block⟩
theorem gr_bw {a b c : World} {r : Option Nat} (h : a.grownBy b r) (hb : Bw b c) : a.grownBy c r :=
  ⟨hb.os.trans h.os, hb.tape.trans h.tape, hb.output.trans h.output, Nat.le_trans h.size hb.size, fun k hk hr => (hb.block k (Nat.lt_of_lt_of_le hk h.size)).trans (h.block k hk hr)⟩
theorem gr_then {a b c : World} {r : Option Nat} (h : a.grownBy b r) (hb : b.grownBy c r) : a.grownBy c r :=
  ⟨hb.os.trans h.os, hb.tape.trans h.tape, hb.output.trans h.output, Nat.le_trans h.size hb.size, fun k hk hr => (hb.block k (Nat.lt_of_lt_of_le hk h.size) hr).trans (h.block k hk hr)⟩
theorem gr_refl (a : World) (r : Option Nat) : a.grownBy a r := ⟨rfl, rfl, rfl, Nat.le_refl _, fun _ _ _ => rfl⟩
theorem bw_al {a b : World} (h : Bw a b) (o : Obj) : Bw a (b.alloc o) := h.alloc h.size o

theorem infoXi : (Try.prog.info? 61).map (fun i => (i.zero, i.size, i.bytes)) = some (some (.agg #[.int .i64 0, .int .i64 0, .int .i64 0, .string ⟨#[]⟩, .int .i64 0, .int .i64 0, .slice none 0 0]), 7, 80) := by kernel_rfl

theorem symbols_any {v : Value} {l : List Int} {w : World} (h : Rd tInt w v l) (hl : l.length ≤ 1000) : Calls Try.prog 34 #[v] w (FrA tX 61 w (l.map fun _ => ())) := by
  obtain ⟨i0, hi, hz0, hz1, hz2⟩ := info_parts infoXi
  obtain ⟨A, c, rfl, _, _⟩ := h.form
  go_enter Try.func34, Try.ntmps34
  go_wp2_with fail
  go_loopw [3, 8] (fun o i wr => ∃ k : Nat, k ≤ l.length ∧ i = .int .i64 k ∧ Bw w wr ∧ Acc tX 61 wr w.heap.size o (List.replicate k ())) (fun _ i _ => l.length - (intOf i).toNat)
  case atStart => exact ⟨0, Nat.zero_le _, rfl, Below.refl _ _, Acc.nil _ _⟩
  case round =>
    obtain ⟨k, hk, rfl, hbr, hA⟩ := hrel
    by_cases hlt : k < l.length
    · obtain ⟨bl, ol, y, rfl, hy, _, _, hc⟩ := (h.after hbr).int hlt
      go_wp2_with fail
      refine symbol_any.mono ?_
      rintro e w1 ⟨⟨v, rfl, k', a', b', W, n', m', A', l', c', rfl⟩, hb1⟩
      have hA1 := (hA.after hb1).alloc (.cells #[.int .i64 k', .int .i64 a', .int .i64 b', .string W, .int .i64 n', .int .i64 m', .slice A' l' c'] 61)
      have hb2 : Bw w (w1.alloc (.cells #[.int .i64 k', .int .i64 a', .int .i64 b', .string W, .int .i64 n', .int .i64 m', .slice A' l' c'] 61)) := (hbr.then hb1).alloc (hbr.then hb1).size _
      go_wp2_with (at_builtin; refine wpList_app_one (T := tX) (y := ()) rfl _ _ rfl Try.underlying59 hi hz0 hz1 hz2 rfl rfl hA1 rfl (at_new rfl) (show XCells _ from .mk) (by simp [maxLen]; omega) (by simp; omega) hb2.size ?_; intro v1 w3 hA3 hg3 hat3)
      refine ⟨⟨k + 1, hlt, by go_num, Acc.bw hb2 hg3 (fun g e => (hA1.own g e).1) (Nat.le_refl _), ?_⟩, by simp [intOf]; omega⟩
      rw [show List.replicate (k + 1) () = List.replicate k () ++ [()] from by simp [List.replicate_succ']]
      exact hA3
    · have hk2 : k = l.length := by omega
      subst hk2
      go_wp2_with fail
      go_ret
      refine ⟨_, rfl, hbr, ?_⟩
      rw [show (l.map fun _ => ()) = List.replicate l.length () by simp [List.map_const']]
      exact hA
end Go.Proofs.Ytockfkmemoggiaa

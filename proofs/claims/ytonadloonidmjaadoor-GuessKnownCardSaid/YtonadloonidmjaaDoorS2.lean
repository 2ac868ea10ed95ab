/- The contracts of the program's 'piece', 'Split' and 'isName'. Conditions: the library's two tables stand in the world. -/
import Derived.Test.YtonadloonidmjaaDoorShelf
import Derived.Test.YtonadloonidmjaaDoorTail
import Derived.Test.YtonadloonidmjaaDoorPlain2
import Derived.WalkKit
import Derived.Lib.Hide
import Derived.Lib.OthersKept
import Derived.Laws.DeepStrings4
namespace Go.Proofs.YtonadloonidmjaaDoor
open Go.RowKit Go.Lib
open Pl

/-- The two tables of utf8 stand. -/
def Tb (w : World) : Prop := Lib.Utf8Tabs 1 2 w
theorem Tb.after {w w' : World} (h : Tb w) (hb : Bw w w') : Tb w' := Utf8Tabs_below h hb

theorem infoStr : (Tryd.prog.info? 9).map (fun i => (i.zero, i.size, i.bytes)) = some (some (.string ⟨#[]⟩), 1, 16) := by kernel_rfl
theorem infoI : (Tryd.prog.info? 3).map (fun i => (i.zero, i.size, i.bytes)) = some (some (.int .i64 0), 1, 8) := by kernel_rfl
theorem info_parts {P : Program} {t : TypeId} {z : Value} {n b : Nat} (h : (P.info? t).map (fun i => (i.zero, i.size, i.bytes)) = some (some z, n, b)) : ∃ i, P.info? t = some i ∧ i.zero = some z ∧ i.size = n ∧ i.bytes = b := by
  obtain ⟨i, hi, hzz⟩ := Option.map_eq_some_iff.1 h
  simp only [Prod.mk.injEq] at hzz
  exact ⟨i, hi, hzz.1, hzz.2.1, hzz.2.2⟩

/-- piece: what the decoder gives, and whether it is a letter. -/
theorem piece_any {s : ByteArray} {r n : Nat} {w : World} (hT : Tb w) (hd : Lib.decodeGo s = (r, n)) :
    Calls Tryd.prog 84 #[.string s] w fun e w' => e = .returned (.tuple #[.int .i32 r, .int .i64 n, .bool (decide (r ≠ 65533) || decide (1 < n))]) ∧ Bw w w' := by
  have HD := Lib.hid (Tryd.utf8_DecodeRuneInString s w hT)
  rw [hd] at HD
  clear hd
  by_cases h1 : r = 65533
  · subst h1
    by_cases h2 : 1 < n
    · rw [decide_eq_true h2]
      go_enter Tryd.func84, Tryd.ntmps84
      go_wp2_with (go_at_call 96; refine HD.out.mono ?_; rintro e w' ⟨rfl, hb⟩)
      go_ret3
      refine ⟨?_, hb⟩
      have e1 : decide ((1 : Int) < (n : Int)) = true := decide_eq_true (by omega)
      simp only [Array.getD_eq_getD_getElem?]
      simp [e1]
    · rw [decide_eq_false h2]
      go_enter Tryd.func84, Tryd.ntmps84
      go_wp2_with (go_at_call 96; refine HD.out.mono ?_; rintro e w' ⟨rfl, hb⟩)
      go_ret3
      refine ⟨?_, hb⟩
      have e1 : decide ((1 : Int) < (n : Int)) = false := decide_eq_false (by omega)
      simp only [Array.getD_eq_getD_getElem?]
      simp [e1]
  · rw [decide_eq_true h1]
    have h1' : ¬ ((r : Int) = 65533) := by omega
    go_enter Tryd.func84, Tryd.ntmps84
    go_wp2_with (go_at_call 96; refine HD.out.mono ?_; rintro e w' ⟨rfl, hb⟩)
    go_ret3
    exact ⟨rfl, hb⟩

theorem piece_at {s : ByteArray} {D : Nat × Nat} {w : World} (hT : Tb w) (hd : Lib.decodeGo s = D) :
    Calls Tryd.prog 84 #[.string s] w fun e w' => e = .returned (.tuple #[.int .i32 D.1, .int .i64 D.2, .bool (decide (D.1 ≠ 65533) || decide (1 < D.2))]) ∧ Bw w w' := piece_any hT hd
theorem dec_suffix {s : ByteArray} {i : Nat} (h : i < s.size) : Lib.decodeGo (s.extract i s.size) = Utf8.decode s i := by
  have hsz : (s.extract i s.size).size = s.size - i := by rw [ByteArray.size_extract]; omega
  have e : Lib.decodeGo (s.extract i s.size) = Utf8.decode (s.extract i s.size) 0 := by
    show (if (s.extract i s.size).size = 0 then _ else _) = _
    rw [if_neg (by omega)]
  rw [e, Lib.decode_at, Lib.decode_at, hsz]
  have hb : ∀ k, ((s.extract i s.size).get! k).toNat = (s.get! (i + k)).toNat := fun k => by
    have := byteAt_extract s i s.size k (Nat.le_refl _)
    unfold byteAt at this
    rw [this]
    split
    · rfl
    · exact (byteAt_out s (i + k) (by omega)).symm
  rw [hb, hb, hb, hb]
  rfl

theorem bw_iter {w w' : World} (h : Bw w w') {k : Nat} (hk : w.heap.size ≤ k) (s : ByteArray) (p : Nat) : Bw w (w'.iterAt k s p) :=
  ⟨h.os, h.tape, h.output, by have := h.size; simp [World.iterAt]; exact this, fun i hi => by
    have hne : k ≠ i := by omega
    rw [← h.block i hi]
    simp [World.iterAt, hne]⟩
theorem grown_iter (w : World) (k : Nat) (s : ByteArray) (p : Nat) : w.grownBy (w.iterAt k s p) (some k) :=
  ⟨rfl, rfl, rfl, by simp [World.iterAt], fun i _ hne => by
    have : k ≠ i := fun e => hne (by rw [e])
    simp [World.iterAt, this]⟩

/-- A cut of a string. -/
theorem cut_str (s : ByteArray) {i j : Int} {a b : Nat} (hi : i = a) (hj : j = b) (h1 : a ≤ b) (h2 : b ≤ s.size) (w : World) :
    (Instr.slice 9 (.string s) (some (.int .i64 i)) (some (.int .i64 j)) none).run Tryd.prog w = .ok (.string (s.extract a b)) w := by
  subst hi; subst hj
  rw [run_slice_string_if w 9 s .i64 .i64 a b Tryd.underlying9, if_pos ⟨by omega, by omega⟩, if_pos ⟨by omega, by omega⟩]
  simp
/-- What Split reports. -/
def spE (s : ByteArray) : Int := if 16384 < s.size then 2 else if okS s then 0 else 3

set_option maxRecDepth 100000 in
set_option maxHeartbeats 2000000 in
theorem split_any {s : ByteArray} {w : World} (hT : Tb w) : Calls Tryd.prog 59 #[.string s] w fun e w' => (∃ v a, e = .returned (.tuple #[v, .int .i64 a, .int .i64 (spE s)])) ∧ Bw w w' := by
  obtain ⟨i0, hi, hz0, hz1, hzb⟩ := info_parts infoStr
  by_cases hbig : 16384 < s.size
  · have he : spE s = 2 := by unfold spE; rw [if_pos hbig]
    rw [he]
    go_enter Tryd.func59, Tryd.ntmps59
    go_wp2_with fail
    go_ret3
    exact ⟨⟨_, _, rfl⟩, Below.refl _ _⟩
  · have he : Hid (spE s = if okS s then 0 else 3) := by show spE s = _; unfold spE; rw [if_neg hbig]
    go_enter Tryd.func59, Tryd.ntmps59
    go_wp2_with fail
    have hK0 : (w.iter s 0).heap[w.heap.size]? = some (.stringIter s 0) := World.iter_heap w s 0
    have hB0 : Bw w (w.iter s 0) := (Below.refl _ _).alloc (Nat.le_refl _) _
    go_loopw [2] (fun l wr => ∃ (pos f : Nat) (xs : List ByteArray), wr.heap[w.heap.size]? = some (.stringIter s pos) ∧ Bw w wr ∧ Acc tStr 9 wr (w.heap.size + 1) l xs ∧ okF s f pos = okS s ∧ s.size ≤ pos + f ∧ pos ≤ s.size ∧ xs.length ≤ pos) (fun _ wr => s.size - wr.iterPos w.heap.size)
    case atStart => exact ⟨0, s.size, [], hK0, hB0, Acc.nil _ _, rfl, by omega, Nat.zero_le _, Nat.le_refl _⟩
    case round =>
      obtain ⟨pos, f, xs, hk, hbr, hA, hok, hf, hpos, hxs⟩ := hrel
      have hip : wr.iterPos w.heap.size = pos := by simp [World.iterPos, hk]
      by_cases hp : pos < s.size
      · have hnx : ∀ ty, (Instr.next (.pointer (some ⟨w.heap.size, 0, none⟩)) true ty).run Tryd.prog wr = _ := fun ty => run_next_any_at wr _ s pos ty hk hp
        have hsz : w.heap.size + 1 ≤ wr.heap.size := by have := (Array.getElem?_eq_some_iff.1 hk).1; omega
        have hwd := dec_wd hp
        have hw1 := wd_pos s pos
        have hw2 := wd_le hp
        have hb1 : Bw w (wr.iterAt w.heap.size s (pos + (Utf8.decode s pos).2)) := bw_iter hbr (Nat.le_refl _) s _
        have hk1 : (wr.iterAt w.heap.size s (pos + (Utf8.decode s pos).2)).heap[w.heap.size]? = some (.stringIter s (pos + (Utf8.decode s pos).2)) := iterAt_heap wr _ s pos _ hk
        have hA1 := hA.grown (grown_iter wr w.heap.size s (pos + (Utf8.decode s pos).2)) (by
          cases hv : u2.ownBlock with
          | none => exact .inl rfl
          | some g => exact .inr fun e => by have := (hA.own g hv).1; injection e with e; omega) (fun g e => by injection e with e; omega)
        have HP := Lib.hid (piece_at (hT.after hb1) (dec_suffix hp))
        have hz1' : w.heap.size + 1 ≤ (wr.iterAt w.heap.size s (pos + (Utf8.decode s pos).2)).heap.size := by have := (Array.getElem?_eq_some_iff.1 hk1).1; omega
        obtain ⟨f, rfl⟩ : ∃ f', f = f' + 1 := ⟨f - 1, by omega⟩
        have hstep : okF s (f + 1) pos = if Utf8.decode s pos = (65533, 1) then false else okF s f (pos + (Utf8.decode s pos).2) := by
          show (if s.size ≤ pos then true else _) = _
          rw [if_neg (by omega)]
        rw [hstep] at hok
        clear hstep hK0 hB0
        generalize hD : Utf8.decode s pos = D at *
        obtain ⟨r, n⟩ := D
        simp only at hwd hb1 hk1 hA1 hz1' HP
        rw [← hwd] at hw1 hw2
        by_cases h1 : r = 65533
        · subst h1
          by_cases h2 : 1 < n
          · have hB : (decide ((65533 : Nat) ≠ 65533) || decide (1 < n)) = true := by simp [h2]
            rw [hB] at HP
            rw [if_neg (by intro e; injection e with _ e; omega)] at hok
            have Hok := Lib.hid hok
            have hcut : ∀ w', (Instr.slice 9 (.string s) (some (.int .i64 (pos : Int))) (some (.int .i64 ((pos : Int) + n))) none).run Tryd.prog w' = .ok (.string (s.extract pos (pos + n))) w' := fun w' => cut_str s rfl (by omega) (by omega) hw2 w'
            clear hok hD hwd hB
            go_wp2_with fail
            refine HP.out.mono ?_
            rintro e w2 ⟨rfl, hb2⟩
            have hb3 := hb1.then hb2
            have hA2 := (hA1.after hb2).alloc (.cells #[.string (s.extract pos (pos + n))] 9)
            have hz2 := Nat.le_trans hz1' hb2.size
            have hk2 := (hb2.block _ (by omega : w.heap.size < _)).trans hk1
            have hz3 : w.heap.size + 1 ≤ (w2.alloc (.cells #[.string (s.extract pos (pos + n))] 9)).heap.size := by rw [sz_alloc]; omega
            have hk3 := at_old (o := .cells #[.string (s.extract pos (pos + n))] 9) hk2
            have hb4 := bw_al hb3 (.cells #[.string (s.extract pos (pos + n))] 9)
            have hxz : (s.extract pos (pos + n)).size ≤ maxLen := by rw [ByteArray.size_extract]; unfold maxLen; omega
            go_wp2_with (at_builtin; first
              | (refine wpList_app_one rfl _ _ rfl Tryd.underlying39 hi hz0 hz1 hzb rfl rfl hA2 rfl (at_new rfl) ⟨rfl, hxz⟩ (by unfold maxLen; omega) (by omega) hz3 ?_
                 intro v1 w3 hA3 hg3 hat3
                 have hk4 := (hg3.block _ (by omega : w.heap.size < _) (fun e => by have := (hA2.own _ e.symm).1; omega)).trans hk3
                 have hb5 := Acc.bw hb4 hg3 (fun g e => (hA2.own g e).1) (by omega)))
            exact ⟨⟨pos + n, f, _, hk4, hb5, hA3, Hok.out, by omega, hw2, by simp; omega⟩, by simp [World.iterPos, hk, hk4]; omega⟩
          · obtain rfl : n = 1 := by omega
            have hB : (decide ((65533 : Nat) ≠ 65533) || decide ((1 : Nat) < 1)) = false := by simp
            rw [hB] at HP
            rw [if_pos rfl] at hok
            have hs3 : spE s = 3 := by rw [he.out, ← hok]; rfl
            clear hok hD hwd hB he
            have Hs := Lib.hid (fun (v a : Value) => show Ending.returned (.tuple #[v, a, .int .i64 3]) = .returned (.tuple #[v, a, .int .i64 (spE s)]) by rw [hs3])
            clear hs3
            go_wp2_with fail
            refine HP.out.mono ?_
            rintro e w2 ⟨rfl, hb2⟩
            go_wp2_with fail
            go_ret3
            exact ⟨⟨_, _, Hs.out _ _⟩, hb1.then hb2⟩
        · have h1' : ¬ ((r : Int) = 65533) := by omega
          have hB : (decide (r ≠ 65533) || decide (1 < n)) = true := by simp [h1]
          rw [hB] at HP
          rw [if_neg (by intro e; injection e with e; exact h1 e)] at hok
          have Hok := Lib.hid hok
          have hcut : ∀ w', (Instr.slice 9 (.string s) (some (.int .i64 (pos : Int))) (some (.int .i64 ((pos : Int) + n))) none).run Tryd.prog w' = .ok (.string (s.extract pos (pos + n))) w' := fun w' => cut_str s rfl (by omega) (by omega) hw2 w'
          clear hok hD hwd hB
          go_wp2_with fail
          refine HP.out.mono ?_
          rintro e w2 ⟨rfl, hb2⟩
          have hb3 := hb1.then hb2
          have hA2 := (hA1.after hb2).alloc (.cells #[.string (s.extract pos (pos + n))] 9)
          have hz2 := Nat.le_trans hz1' hb2.size
          have hk2 := (hb2.block _ (by omega : w.heap.size < _)).trans hk1
          have hz3 : w.heap.size + 1 ≤ (w2.alloc (.cells #[.string (s.extract pos (pos + n))] 9)).heap.size := by rw [sz_alloc]; omega
          have hk3 := at_old (o := .cells #[.string (s.extract pos (pos + n))] 9) hk2
          have hb4 := bw_al hb3 (.cells #[.string (s.extract pos (pos + n))] 9)
          have hxz : (s.extract pos (pos + n)).size ≤ maxLen := by rw [ByteArray.size_extract]; unfold maxLen; omega
          go_wp2_with (at_builtin; first
            | (refine wpList_app_one rfl _ _ rfl Tryd.underlying39 hi hz0 hz1 hzb rfl rfl hA2 rfl (at_new rfl) ⟨rfl, hxz⟩ (by unfold maxLen; omega) (by omega) hz3 ?_
               intro v1 w3 hA3 hg3 hat3
               have hk4 := (hg3.block _ (by omega : w.heap.size < _) (fun e => by have := (hA2.own _ e.symm).1; omega)).trans hk3
               have hb5 := Acc.bw hb4 hg3 (fun g e => (hA2.own g e).1) (by omega)))
          exact ⟨⟨pos + n, f, _, hk4, hb5, hA3, Hok.out, by omega, hw2, by simp; omega⟩, by simp [World.iterPos, hk, hk4]; omega⟩
      · have hnx : ∀ ty, (Instr.next (.pointer (some ⟨w.heap.size, 0, none⟩)) true ty).run Tryd.prog wr = _ := fun ty => run_next_end_at wr _ s pos ty hk hp
        have hs0 : spE s = 0 := by
          rw [he.out, ← hok]
          cases f with
          | zero => rfl
          | succ f => show (if (if s.size ≤ pos then true else _) = true then (0 : Int) else 3) = 0; rw [if_pos (by omega : s.size ≤ pos)]; rfl
        clear hok he
        have Hs := Lib.hid (fun (v a : Value) => show Ending.returned (.tuple #[v, a, .int .i64 0]) = .returned (.tuple #[v, a, .int .i64 (spE s)]) by rw [hs0])
        clear hs0
        go_wp2_with fail
        go_ret3
        exact ⟨⟨_, _, Hs.out _ _⟩, hbr⟩

/-- A name. -/
def nameB (s : ByteArray) : Bool := decide (1 ≤ s.size) && decide (s.size ≤ 40) && okS s
theorem spE_ok {s : ByteArray} (h : s.size ≤ 16384) : spE s = if okS s then 0 else 3 := by unfold spE; rw [if_neg (by omega)]
end Go.Proofs.YtonadloonidmjaaDoor

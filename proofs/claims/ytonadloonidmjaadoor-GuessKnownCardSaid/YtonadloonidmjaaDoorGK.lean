/- The map of counts in memory: its keys, a look-up, the two halves of a count. Conditions: none. -/
import Derived.Test.YtonadloonidmjaaDoorGL
import Derived.Test.YtonadloonidmjaaDoorRange
import Derived.Test.YtonadloonidmjaaDoorTail
import Derived.Test.YtonadloonidmjaaDoorProg
import Derived.Deep.MidRow
import Derived.WideKeyEntry
namespace Go.Proofs.YtonadloonidmjaaDoor
open Go.RowKit Go.Maps Go.ChangeMaps
open Pl

section
variable {P : Program} {k t e : TypeId} {w w' : World} {b : Nat} {l : List (Value × Value)}
theorem ents_val (l : List (Value × Value)) (j : Nat) (x v u : Value) (h : l[j]? = some (x, u)) : (ents l).modify j (fun e => { e with val := v }) = ents (l.set j (x, v)) := by
  apply Array.ext_getElem?
  intro i
  rw [ents_at, Array.getElem?_modify, ents_at, List.getElem?_set]
  have hj : j < l.length := (List.getElem?_eq_some_iff.1 h).1
  by_cases e : j = i
  · subst e; rw [if_pos rfl, if_pos rfl, if_pos hj, h]; rfl
  · rw [if_neg e, if_neg e]
theorem ents_same (l : List (Value × Value)) (j : Nat) (x u : Value) (h : l[j]? = some (x, u)) : (ents l).modify j (fun e => { e with key := x }) = ents l := by
  apply Array.ext_getElem?
  intro i
  rw [Array.getElem?_modify, ents_at]
  by_cases e : j = i
  · subst e; rw [if_pos rfl, h]; rfl
  · rw [if_neg e]
theorem set_at {w : World} {b : Nat} {o o' : Obj} (h : w.heap[b]? = some o) : (setBlock w b o').heap[b]? = some o' := by
  have := (Array.getElem?_eq_some_iff.1 h).1
  simp [setBlock, this]
theorem set_size (w : World) (b : Nat) (o : Obj) : (setBlock w b o).heap.size = w.heap.size := by simp [setBlock]
/-- The entry of a key, made where there was none. -/
theorem Mp.entry (K : Keyed P k) (ht : P.underlying t = some (.map k e)) (h : Mp P k w b l) {x z : Value} {lx : Lit} (hx : keyOf P k x = some lx) (hz : ∀ u : World, (zeroValue e).run P u = .ok z u) :
    ∃ (v : Value) (st : Nat) (l1 : List (Value × Value)) (w1 : World), (Instr.mapEntry t (.map (some b)) x).run P w = .ok (.tuple #[v, goInt st]) w1 ∧ Mp P k w1 b l1 ∧ w.grownBy w1 (some b) ∧ w1.heap.size = w.heap.size ∧
      l1[st]? = some (x, v) ∧ ((l1 = l ∧ l[st]? = some (x, v)) ∨ (l1 = l ++ [(x, z)] ∧ st = l.length ∧ v = z ∧ ∀ p ∈ l, p.1 ≠ x)) := by
  rcases h.find K hx w with ⟨h1, hn⟩ | ⟨j, u, h1, h2⟩
  · refine ⟨z, l.length, l ++ [(x, z)], setBlock w b (.map ((ents l).push { key := x, val := z, born := l.length }) (l.length + 1)), ?_, ?_, setBlock_grown w b _, set_size _ _ _, by simp, .inr ⟨rfl, rfl, rfl, hn⟩⟩
    · simp [Instr.mapEntry, run_underlying ht, MapKept.run_getObj_map h.heap, K.check w false hx, h1, hz, MapKept.run_setObj_map _ h.heap, Result.andThen, setBlock]
    · obtain ⟨w1, hrun, hm, _⟩ := h.put_new (v := z) K ht hx hn
      have e1 : w1 = setBlock w b (.map ((ents l).push { key := x, val := z, born := l.length }) (l.length + 1)) := by
        simp [Instr.mapUpdate, run_underlying ht, MapKept.run_getObj_map h.heap, K.check w false hx, h1, MapKept.run_setObj_map _ h.heap, Result.andThen] at hrun
        rw [← hrun]; rfl
      rw [← e1]; exact hm
  · have he : (ents l)[j]? = some { key := x, val := u, born := j } := by rw [ents_at, h2]; rfl
    refine ⟨u, j, l, setBlock w b (.map (ents l) l.length), ?_, ⟨set_at h.heap, h.keys, h.apart⟩, setBlock_grown w b _, set_size _ _ _, h2, .inl ⟨rfl, h2⟩⟩
    simp [Instr.mapEntry, run_underlying ht, MapKept.run_getObj_map h.heap, K.check w false hx, h1, he, K.stays w hx, MapKept.run_setObj_map _ h.heap, Result.andThen, ents_same l j x u h2, setBlock]
/-- Its value laid. -/
theorem Mp.stored (h : Mp P k w b l) {st : Nat} {x v val : Value} (hs : l[st]? = some (x, v)) :
    ∃ w1, (Instr.entryStore t (.map (some b)) (goInt st) val).run P w = .ok () w1 ∧ Mp P k w1 b (l.set st (x, val)) ∧ w.grownBy w1 (some b) ∧ w1.heap.size = w.heap.size := by
  have he : (ents l).toList[st]? = some { key := x, val := v, born := st } := by
    have := ents_at l st
    rw [hs] at this
    simpa using this
  have hidx : (ents l).findIdx? (fun e => ((e.born : Nat) : Int) == ((st : Nat) : Int)) = some st := by
    rw [Go.WideElems.findIdx_arr]
    exact Go.WideElems.findIdx_born (ents_nodup l) he
  refine ⟨setBlock w b (.map (ents (l.set st (x, val))) l.length), ?_, ⟨?_, ?_, ?_⟩, setBlock_grown w b _, set_size _ _ _⟩
  · simp [Instr.entryStore, MapKept.run_getObj_map h.heap, asInt, asIntOf, goInt, hidx, ents_val l st x val v hs, MapKept.run_setObj_map _ h.heap, Result.andThen, setBlock]
  · rw [set_at h.heap]; simp
  · intro p hp
    rcases List.mem_or_eq_of_mem_set hp with hp | rfl
    · exact h.keys p hp
    · exact h.keys (x, v) (List.mem_of_getElem? hs)
  · have key : ∀ (m : Nat) (p : Value × Value), (l.set st (x, val))[m]? = some p → ∃ q : Value × Value, l[m]? = some q ∧ q.1 = p.1 := by
      intro m p hm
      rw [List.getElem?_set] at hm
      split at hm
      · rename_i e; subst e
        split at hm
        · injection hm with hm; exact ⟨_, hs, by rw [← hm]⟩
        · cases hm
      · exact ⟨p, hm, rfl⟩
    intro m n p q hm hn hpq
    obtain ⟨p', h3, h4⟩ := key m p hm
    obtain ⟨q', h5, h6⟩ := key n q hn
    exact h.apart m n p' q' h3 h5 (by rw [h4, h6, hpq])
end

/-- An ending with its tags, as a key. -/
def keyL (x : Ky) : List Value := .int .i64 x.1.length :: ((pad x.1).map (Value.int .i64) ++ [.string x.2])
def keyV (x : Ky) : Value := .agg (keyL x).toArray
def KyOk (x : Ky) : Prop := x.1.length ≤ 40 ∧ (∀ y ∈ x.1, inI64 y) ∧ x.2.size ≤ maxLen
theorem keyL_len {x : Ky} (h : x.1.length ≤ 40) : (keyL x).length = 42 := by unfold keyL; simp [pad_len h]
theorem keyL_inj {x y : Ky} (hx : x.1.length ≤ 40) (hy : y.1.length ≤ 40) (h : keyL x = keyL y) : x = y := by
  unfold keyL at h
  injection h with h1 h2
  injection h1 with _ h1
  have hl : x.1.length = y.1.length := by omega
  obtain ⟨h3, h4⟩ := List.append_inj h2 (by simp [pad_len hx, pad_len hy])
  have h5 : pad x.1 = pad y.1 := (List.map_inj_right (fun a b e => by injection e)).1 h3
  have h6 := pad_inj hl h5
  injection h4 with h4
  injection h4 with h4
  obtain ⟨a, b⟩ := x
  obtain ⟨c, d⟩ := y
  simp at h6 h4
  rw [h6, h4]
theorem keyV_inj {x y : Ky} (hx : x.1.length ≤ 40) (hy : y.1.length ≤ 40) (h : keyV x = keyV y) : x = y := by
  unfold keyV at h
  injection h with h
  exact keyL_inj hx hy (by simpa using h)

theorem tsize : ∃ d, Tryd.prog.types.size + 1 = d + 3 :=
  ⟨Tryd.prog.types.size - 2, by have h : 2 ≤ Tryd.prog.types.size := of_decide_eq_true (by kernel_rfl); omega⟩
theorem laidOut : laidOutB Tryd.prog = true := by kernel_rfl
theorem keyed49 : Keyed Tryd.prog 49 := Keyed.of_law (deep_law_laid laidOut (m := 3) (by omega) (of_decide_eq_true (by kernel_rfl)) (by kernel_rfl) (by rw [Tryd.underlying49]))
theorem ktype49 : Tryd.prog.keyType 49 = true := by kernel_rfl
theorem cells49 : Tryd.prog.cellsOf 49 = 42 := by kernel_rfl
theorem cells47 : Tryd.prog.cellsOf 47 = 40 := by kernel_rfl
theorem cells3 : Tryd.prog.cellsOf 3 = 1 := by kernel_rfl
theorem cells9 : Tryd.prog.cellsOf 9 = 1 := by kernel_rfl

theorem mapM_ex {α β : Type} {f : α → Option β} : ∀ {l : List α}, (∀ i ∈ l, ∃ y, f i = some y) → ∃ ys, l.mapM f = some ys
  | [], _ => ⟨[], rfl⟩
  | a :: l, h => by
    obtain ⟨y, hy⟩ := h a (by simp)
    obtain ⟨ys, hys⟩ := mapM_ex (l := l) fun i hi => h i (by simp [hi])
    exact ⟨y :: ys, by simp [List.mapM_cons, hy, hys]⟩
theorem wfI {y : Int} (h : inI64 y) : (Lit.int .i64 y).wf = true := WalkArith.wf_i64 (by unfold inI64 at h; omega)
theorem klInt (d : Nat) {y : Int} (h : inI64 y) : Tryd.prog.keyLits (d + 1) 3 [.int .i64 y] = some [.int .i64 y] := by
  have := wfI h
  simp [Program.keyLits, Tryd.underlying3, this]
theorem klStr (d : Nat) {s : ByteArray} (h : s.size ≤ maxLen) : Tryd.prog.keyLits (d + 1) 9 [.string s] = some [.string s.data.toList] := by
  simp [Program.keyLits, Tryd.underlying9, h]
theorem klArr (d : Nat) {xs : List Int} (hl : xs.length = 40) (h : ∀ y ∈ xs, inI64 y) : ∃ l, Tryd.prog.keyLits (d + 2) 47 (xs.map (Value.int .i64)) = some l := by
  rw [Program.keyLits.eq_def]
  simp only [Tryd.underlying47, cells47, cells3, List.length_map, hl, if_true]
  obtain ⟨ys, hys⟩ := mapM_ex (f := fun i => Tryd.prog.keyLits (d + 1) 3 (((xs.map (Value.int .i64)).drop (i * 1)).take 1)) (l := List.range 40) fun i hi => by
    have hi : i < xs.length := by rw [hl]; exact List.mem_range.1 hi
    refine ⟨[.int .i64 xs[i]], ?_⟩
    rw [Nat.mul_one, List.drop_eq_getElem_cons (by simpa using hi), List.take_succ_cons, List.take_zero, List.getElem_map]
    exact klInt d (h _ (List.getElem_mem hi))
  rw [hys]
  exact ⟨_, rfl⟩
theorem pad_in {x : List Int} (h : ∀ y ∈ x, inI64 y) : ∀ y ∈ pad x, inI64 y := fun y hy => by
  unfold pad at hy
  rcases List.mem_append.1 hy with hy | hy
  · exact h y hy
  · rw [(List.mem_replicate.1 hy).2]; simp [inI64]
theorem key_of {x : Ky} (h : KyOk x) : ∃ lx, keyOf Tryd.prog 49 (keyV x) = some lx := by
  obtain ⟨h1, h2, h3⟩ := h
  have hl := keyL_len h1
  have hf : (keyV x).formed Tryd.prog 49 = true := by unfold keyV; simp [Value.formed, Tryd.underlying49, cells49, hl]
  have hk : ∀ d, ∃ ls, Tryd.prog.keyLits (d + 3) 49 (keyL x) = some ls := fun d => by
    obtain ⟨lw, hlw⟩ := klArr d (pad_len h1) (pad_in h2)
    rw [Program.keyLits.eq_def]
    simp only [Tryd.underlying49, cells49, hl]
    have e1 : (keyL x).take 1 = [.int .i64 x.1.length] := rfl
    have e2 : (keyL x).tail.take 40 = (pad x.1).map (Value.int .i64) := by
      unfold keyL
      rw [List.tail_cons, List.take_left' (by simp [pad_len h1])]
    have e3 : (List.drop 41 (keyL x)).take 1 = [.string x.2] := by
      unfold keyL
      rw [List.drop_succ_cons, List.drop_left' (by simp [pad_len h1])]; rfl
    have k1 := klInt (d + 1) (y := (x.1.length : Int)) (by simp [inI64]; omega)
    have k3 := klStr (d + 1) h3
    simp [List.mapM_cons, cells3, cells47, cells9, e1, e2, e3, k1, hlw, k3]
  obtain ⟨d, hd⟩ := tsize
  obtain ⟨ls, hls⟩ := hk d
  unfold keyOf
  rw [Tryd.underlying49, hd]
  simp only [ktype49, hf, Bool.and_self, if_true]
  exact ⟨_, by rw [show (Value.cells (keyV x)).toList = keyL x from rfl, hls]; rfl⟩

/-- The entries of a list of counts. -/
def entL (m : List En) : List (Value × Value) := m.map fun e => (keyV (kyE e), .int .i64 e.2.2)
theorem entL_at {m : List En} {j : Nat} {p : Value × Value} (h : (entL m)[j]? = some p) : ∃ e, m[j]? = some e ∧ p = (keyV (kyE e), .int .i64 e.2.2) := by
  unfold entL at h
  rw [List.getElem?_map] at h
  cases he : m[j]? with
  | none => rw [he] at h; cases h
  | some e => rw [he] at h; injection h with h; exact ⟨e, rfl, h.symm⟩
theorem zero3 (u : World) : (zeroValue 3).run Tryd.prog u = .ok (.int .i64 0) u := Tryd.zeroValue3 u
/-- All keys of a list fit. -/
def KsOk (m : List En) : Prop := ∀ e ∈ m, KyOk (kyE e)
section
variable {w : World} {b : Nat} {m : List En} {ev : List Ky} {x : Ky}
theorem entL_new (hx : KyOk x) (hm : KsOk m) (hn : ∀ e ∈ m, kyE e ≠ x) : ∀ p ∈ entL m, p.1 ≠ keyV x := fun p hp => by
  obtain ⟨e, he, rfl⟩ := List.mem_map.1 hp
  exact fun h => hn e he (keyV_inj (hm e he).1 hx.1 h)
theorem cnt_at (hc : Cn ev m) {e : En} (he : e ∈ m) : e.2.2 = cnt ev (kyE e) := ((hc.2 e).1 he).2
theorem cnt_no (hc : Cn ev m) (hn : ∀ e ∈ m, kyE e ≠ x) : cnt ev x = 0 := by
  by_cases h : 0 < cnt ev x
  · exact absurd rfl (hn (x.1, x.2, (cnt ev x : Int)) ((hc.2 _).2 ⟨h, rfl⟩))
  · omega
theorem look_cnt (h : Mp Tryd.prog 49 w b (entL m)) (hc : Cn ev m) (hm : KsOk m) (hx : KyOk x) :
    (Instr.lookup 46 (.map (some b)) (keyV x) false).run Tryd.prog w = .ok (.int .i64 (cnt ev x)) w := by
  obtain ⟨lx, hlx⟩ := key_of hx
  by_cases hn : ∀ e ∈ m, kyE e ≠ x
  · have := h.look_none keyed49 Tryd.underlying46 hlx (zero3 w) (entL_new hx hm hn) false
    rw [this, cnt_no hc hn]; rfl
  · have : ∃ e ∈ m, kyE e = x := by
      by_cases hh : ∃ e ∈ m, kyE e = x
      · exact hh
      · exact absurd (fun e he h1 => hh ⟨e, he, h1⟩) hn
    obtain ⟨e, he, rfl⟩ := this
    have := h.look_some keyed49 Tryd.underlying46 hlx (v := .int .i64 e.2.2) (List.mem_map.2 ⟨e, he, rfl⟩) false
    rw [this, cnt_at hc he]; rfl
/-- The first half of 'm[x]++'. -/
theorem half_one (h : Mp Tryd.prog 49 w b (entL m)) (hc : Cn ev m) (hm : KsOk m) (hx : KyOk x) :
    ∃ (st : Nat) (w1 : World) (v : Value), (Instr.mapEntry 46 (.map (some b)) (keyV x)).run Tryd.prog w = .ok (.tuple #[v, goInt st]) w1 ∧ w.grownBy w1 (some b) ∧ w1.heap.size = w.heap.size ∧
      (Instr.lookup 46 (.map (some b)) (keyV x) false).run Tryd.prog w1 = .ok (.int .i64 (cnt ev x)) w1 ∧ (Instr.lookup 46 (.map (some b)) (keyV x) false).run Tryd.prog w1.drew = .ok (.int .i64 (cnt ev x)) w1.drew ∧
      ∀ w2 : World, w2.heap[b]? = w1.heap[b]? → ∃ w3, (Instr.entryStore 46 (.map (some b)) (goInt st) (.int .i64 (cnt ev x + 1))).run Tryd.prog w2 = .ok () w3 ∧ w2.grownBy w3 (some b) ∧ w3.heap.size = w2.heap.size ∧
        ∃ m', Mp Tryd.prog 49 w3 b (entL m') ∧ Cn (ev ++ [x]) m' ∧ KsOk m' := by
  obtain ⟨lx, hlx⟩ := key_of hx
  obtain ⟨v, st, l1, w1, hrun, hM1, hg, hsz, hst, hcase⟩ := h.entry keyed49 Tryd.underlying46 hlx zero3
  have hlook : ∀ u, Mp Tryd.prog 49 u b l1 → (Instr.lookup 46 (.map (some b)) (keyV x) false).run Tryd.prog u = .ok (.int .i64 (cnt ev x)) u := fun u hu => by
    rw [hu.look_some keyed49 Tryd.underlying46 hlx (List.mem_of_getElem? hst) false]
    rcases hcase with ⟨rfl, h2⟩ | ⟨rfl, h2, h3, h4⟩
    · obtain ⟨e, he, h5⟩ := entL_at h2
      have h6 : v = .int .i64 e.2.2 := congrArg Prod.snd h5
      have hk := keyV_inj hx.1 (hm e (List.mem_of_getElem? he)).1 (congrArg Prod.fst h5)
      subst h6
      rw [cnt_at hc (List.mem_of_getElem? he), hk]; rfl
    · subst h3
      rw [cnt_no hc fun e he h5 => h4 _ (List.mem_map.2 ⟨e, he, rfl⟩) (by rw [h5])]; rfl
  refine ⟨st, w1, v, hrun, hg, hsz, hlook w1 hM1, hlook _ (hM1.keep rfl), fun w2 hw2 => ?_⟩
  obtain ⟨w3, hr3, hM3, hg3, hs3⟩ := (hM1.keep hw2).stored (t := 46) (val := .int .i64 (cnt ev x + 1)) hst
  refine ⟨w3, hr3, hg3, hs3, ?_⟩
  rcases hcase with ⟨rfl, h2⟩ | ⟨rfl, h2, h3, h4⟩
  · obtain ⟨e, he, h5⟩ := entL_at h2
    have hem := List.mem_of_getElem? he
    have hk := keyV_inj hx.1 (hm e hem).1 (congrArg Prod.fst h5)
    subst hk
    have hce := cnt_at hc hem
    refine ⟨m.set st ((kyE e).1, (kyE e).2, e.2.2 + 1), ?_, cn_old hc (by rw [he]; rfl), fun f hf => ?_⟩
    · have : entL (m.set st ((kyE e).1, (kyE e).2, e.2.2 + 1)) = (entL m).set st (keyV (kyE e), .int .i64 (cnt ev (kyE e) + 1)) := by
        unfold entL; rw [List.map_set, ← hce]; rfl
      rw [this]; exact hM3
    · rcases List.mem_or_eq_of_mem_set hf with hf | rfl
      · exact hm f hf
      · exact hx
  · have hn : ∀ e ∈ m, kyE e ≠ x := fun e he h5 => h4 _ (List.mem_map.2 ⟨e, he, rfl⟩) (by rw [h5])
    refine ⟨m ++ [(x.1, x.2, 1)], ?_, cn_new hc hn, fun f hf => ?_⟩
    · rw [h2, cnt_no hc hn] at hM3
      have : entL (m ++ [(x.1, x.2, 1)]) = (entL m ++ [(keyV x, Value.int .i64 0)]).set (entL m).length (keyV x, .int .i64 (((0 : Nat) : Int) + 1)) := by
        rw [List.set_append_right _ _ (Nat.le_refl _), Nat.sub_self]
        unfold entL; rw [List.map_append]; rfl
      rw [this]; exact hM3
    · rcases List.mem_append.1 hf with hf | hf
      · exact hm f hf
      · rw [List.mem_singleton] at hf; subst hf; exact hx
end
end Go.Proofs.YtonadloonidmjaaDoor

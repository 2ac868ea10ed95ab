/- The contracts of the statements' own helpers 'test', 'rule', 'cohort', 'saw'. Conditions: what the arguments read as. -/
import Derived.Test.YthecmbmidoagaaaDoorCA2
import Derived.Test.YthecmbmidoagaaaDoorC9b
namespace Go.Proofs.YthecmbmidoagaaaDoor
open Go.RowKit Go.Maps
open Pl

/-- What a literal reads as. -/
theorem sl_list {α : Type} {T : Ty α} {w : World} {D : Nat → Prop} {g n : Nat} {css : List (List Value)} {xs : List α} {e : TypeId} {fz : Nat × Nat} (hg : w.heap[g]? = some (.cells css.flatten.toArray e fz)) (hD : D g) (hl : css.length = xs.length) (hm : xs.length ≤ maxLen) (hn : n = xs.length)
    (hx : ∀ (j : Nat) (x : α) (cs : List Value), xs[j]? = some x → css[j]? = some cs → T.rep w D cs x) : Sl T w D (.slice (some ⟨g, 0, none⟩) n n) xs := by
  subst hn
  have hlen : ∀ cs ∈ css, cs.length = T.size := by
    intro cs hcs
    obtain ⟨j, hj⟩ := List.mem_iff_getElem?.1 hcs
    have hjl : j < xs.length := by have := (List.getElem?_eq_some_iff.1 hj).1; omega
    exact T.len (hx j _ cs (List.getElem?_eq_getElem hjl) hj)
  refine ⟨_, _, rfl, Nat.le_refl _, hm, .inr ⟨g, 0, rfl, hD, fun j x hj => ?_⟩⟩
  have hjl : j < css.length := by have := (List.getElem?_eq_some_iff.1 hj).1; omega
  have hc := List.getElem?_eq_getElem hjl
  refine ⟨css[j], hx j x _ hj hc, fun i u hi => ?_⟩
  have := flatten_at hlen j i _ u hc hi
  rw [Nat.zero_add, cell_of_row w g (j * T.size + i) css.flatten.toArray e fz hg]
  simpa using this

set_option maxRecDepth 100000 in
theorem test_any {a : Int} {tag : ByteArray} {w : World} (ht : tag.size ≤ 9223372036854775807) :
    Calls Tryd.prog 29 #[.int .i64 a, .string tag] w fun e w' => ∃ u, e = .returned (.agg #[.int .i64 a, .bool false, .bool false, .bool false, u, .slice none 0 0]) ∧ Bw w w' ∧ Rd tStr w' u [tag] := by
  go_enter Tryd.func29, Tryd.ntmps29
  go_wp2_with fail
  obtain ⟨k0, k1, k2, k3, k4, k5⟩ := box6 (w := (w.alloc (.cells #[.int .i64 a, .bool false, .bool false, .bool false, .slice (some ⟨w.heap.size + 1, 0, none⟩) 1 1, .slice none 0 0] 28)).alloc (.cells #[.string tag] 9)) (at_old (at_new rfl)) (Below.refl _ _)
  refine bodyPost_ret (v := .agg #[.int .i64 a, .bool false, .bool false, .bool false, .slice (some ⟨w.heap.size + 1, 0, none⟩) 1 1, .slice none 0 0]) (by simp [results, Tryd.f29, go_sem, k0, k1, k2, k3, k4, k5]) rfl ?_
  exact ⟨_, rfl, bw_al (bw_refl_al w _) _, lit1 (at_new (by simp)) ht⟩

set_option maxRecDepth 100000 in
theorem rule_mk_any {a : Int} {tag : ByteArray} {v : Value} {ts : List Tst} {w : World} (ht : tag.size ≤ 9223372036854775807) (hv : Rd tTst w v ts) :
    Calls Tryd.prog 31 #[.int .i64 a, .string tag, v] w fun e w' => ∃ u, e = .returned (.agg #[.int .i64 a, u, v, .bool false]) ∧ Bw w w' ∧ Rd tStr w' u [tag] := by
  obtain ⟨A, c, rfl, _, _⟩ := hv.form
  go_enter Tryd.func31, Tryd.ntmps31
  go_wp2_with fail
  have e := row_bw (w := (w.alloc (.cells #[.int .i64 a, .slice (some ⟨w.heap.size + 1, 0, none⟩) 1 1, .slice A ts.length c, .bool false] 34)).alloc (.cells #[.string tag] 9)) (Below.refl _ _) (at_old (at_new rfl))
  have k0 := row4_0 e
  have k1 := row4_1 e
  have k2 := row4_2 e
  have k3 := row4_3 e
  refine bodyPost_ret (v := .agg #[.int .i64 a, .slice (some ⟨w.heap.size + 1, 0, none⟩) 1 1, .slice A ts.length c, .bool false]) (by simp [results, Tryd.f31, go_sem, k0, k1, k2, k3]) rfl ?_
  exact ⟨_, rfl, bw_al (bw_refl_al w _) _, lit1 (at_new (by simp)) ht⟩

theorem sl_own {α : Type} {T : Ty α} {w : World} {D P D' : Nat → Prop} {v : Value} {xs : List α} (h : Sl (tLo T P) w D v xs) (ho : ∀ g, v.ownBlock = some g → D' g) (hp : ∀ b, P b → D' b) : Sl T w D' v xs := by
  obtain ⟨A, c, rfl, h2, h3, h4⟩ := h
  refine ⟨A, c, rfl, h2, h3, ?_⟩
  rcases h4 with h | ⟨b, off, rfl, hD, hx⟩
  · exact .inl h
  · refine .inr ⟨b, off, rfl, ho b rfl, fun j x hj => ?_⟩
    obtain ⟨cs, q1, q2⟩ := hx j x hj
    exact ⟨cs, T.keep (show T.rep w _ cs x from q1) fun b hb => ⟨hp b hb.2, rfl⟩, q2⟩
theorem lookD {D : Nat → Prop} {w : World} {A : Option Addr} {n c k : Nat} {xs : List Rdg} (h : Sl tRdg w D (.slice A n c) xs) (hk : k < xs.length) :
    ∃ b off x u, A = some ⟨b, off, none⟩ ∧ Hid (xs[k]? = some x) ∧ tRdg.rep w D [u] x ∧ w.cell? ⟨b, off + k, none⟩ = some u := by
  obtain ⟨b, off, u, x, h1, h2, h3, h4⟩ := h.sl hk
  exact ⟨b, off, x, u, h1, h2, ⟨u, rfl, h3⟩, h4⟩

set_option maxRecDepth 100000 in
set_option maxHeartbeats 4000000 in
theorem cohort_any {fm : ByteArray} {v : Value} {rs : List Rdg} {w : World} {D : Nat → Prop} (h : Sl tRdg w D v rs) (hD : ∀ b, D b → b < w.heap.size) (hs : rs.length ≤ 500) :
    Calls Tryd.prog 32 #[.string fm, v] w fun e w' => ∃ u', e = .returned (.agg #[.string fm, u']) ∧ Bw w w' ∧ Sl tRdg w' (fun b => D b ∨ w.heap.size ≤ b) u' rs := by
  have hm := h.len_le
  obtain ⟨A, c, rfl, _, _⟩ := h.form
  obtain ⟨i0, hi, hz0, hz1, hz2⟩ := info_parts infoR
  go_enter Tryd.func32, Tryd.ntmps32
  go_wp2_with fail
  have q1 : ((w.alloc (.cells #[.string ⟨#[]⟩, .slice none 0 0] 37)).alloc (.cells #[.string fm, .slice none 0 0] 37)).heap[w.heap.size]? = some (.cells #[.string ⟨#[]⟩, .slice none 0 0] 37) := at_old (at_new rfl)
  have q2 : ((w.alloc (.cells #[.string ⟨#[]⟩, .slice none 0 0] 37)).alloc (.cells #[.string fm, .slice none 0 0] 37)).heap[w.heap.size + 1]? = some (.cells #[.string fm, .slice none 0 0] 37) := at_new (by simp)
  go_loopw [6] (fun i wr => ∃ (k : Nat) (A' : Option Addr) (n c' : Nat), k ≤ rs.length ∧ i = .int .i64 k ∧ Bw w wr ∧ wr.heap[w.heap.size]? = some (.cells #[.string ⟨#[]⟩, .slice none 0 0] 37) ∧
    wr.heap[w.heap.size + 1]? = some (.cells #[.string fm, .slice A' n c'] 37) ∧ Acc (tLo tRdg D) 24 wr 0 (.slice A' n c') (rs.take k) ∧ ∀ g, (Value.slice A' n c').ownBlock = some g → w.heap.size + 2 ≤ g) (fun i _ => rs.length - (intOf i).toNat)
  case atStart => exact ⟨0, none, 0, 0, Nat.zero_le _, rfl, bw_al (bw_refl_al w _) _, q1, q2, Acc.nil _ _, fun g e => by cases e⟩
  case round =>
    clear q1 q2
    obtain ⟨k, A', n, c', hk, rfl, hbw, hr1, hr2, hacc, hown2⟩ := hrel
    have Hr1 := Lib.hid hr1
    have Hr2 := Lib.hid hr2
    have c20 := row2_0 hr2
    have c21 := row2_1 hr2
    have c2f := frozen_of_cells (i := 1) hr2
    clear hr1 hr2
    have hown := hacc.own
    have hsz : w.heap.size + 1 < wr.heap.size := (Array.getElem?_eq_some_iff.1 Hr2.out).1
    by_cases hlt : k < rs.length
    · obtain ⟨b, off, y, uy, rfl, hy, hyr, hc⟩ := lookR (h.rd.after hbw) hlt
      obtain ⟨b0, off0, y0, uy0, hA0, hy0, hyr0, hc0⟩ := lookD h hlt
      injection hA0 with hA0
      injection hA0 with e1 e2
      subst e1; subst e2
      obtain rfl : y = y0 := by have := hy0.out; rw [hy.out] at this; injection this
      have hc0' := bw_cell hbw hc0
      rw [hc] at hc0'
      injection hc0' with hc0'
      subst hc0'
      obtain ⟨u', e, hyu⟩ := rep_rdg hyr0
      injection e with e; subst e
      obtain ⟨A3, c3, rfl, _, _⟩ := hyu.form
      have hsnoc : Hid (rs.take (k + 1) = rs.take k ++ [y]) := by show _ = _; rw [List.take_add_one, hy.out]; rfl
      have hkl : (rs.take k).length = k := by rw [List.length_take]; omega
      have hB1 : (rs.take k).length + 1 ≤ maxLen := by rw [hkl]; unfold maxLen; omega
      have hB2 : ((rs.take k).length + 1) * 24 ≤ 140737488355328 := by rw [hkl]; omega
      have eA2 := bw_cell (bw_refl_al wr (.cells #[.slice A3 y.length c3] 24)) c21
      have eC2 := bw_cell (bw_refl_al wr (.cells #[.slice A3 y.length c3] 24)) hc
      clear hyr hyr0 h
      go_wp2_with fail
      go_region_law
        (refine step_app_one (T := tLo tRdg D) (v := .slice A' n c') (xs := rs.take k) (y := y) rfl _ _ rfl Tryd.underlying35 hi hz0 hz1 hz2 (by rfl) (by rfl) ((hacc.after (Dr.n wr 1).bw).alloc _) (by rfl) (at_new rfl) ⟨.slice A3 y.length c3, rfl, (hyu.keep fun b hb => ⟨⟨⟨Nat.zero_le _, fun e => by have := hown2 b e.symm; have := hD b hb; omega⟩, hb⟩, (Below.heap_alloc _ _ b (Nat.lt_of_lt_of_le (hD b hb) hbw.size)).trans (hbw.block b (hD b hb))⟩)⟩ hB1 hB2 (Nat.zero_le _) ?_
         intro v2 w2 hA2 hg2 hat2
         rw [← hsnoc.out] at hA2
         obtain ⟨P2, n2, c2, rfl, _, _, Hn2⟩ := hA2.sl.form'
         have e21 : w2.heap[w.heap.size + 1]? = some (.cells #[.string fm, .slice A' n c'] 37) := (hg2.block _ (by simp; omega) (fun e => by have := hown2 _ e.symm; omega)).trans (at_old Hr2.out)
         have e11 : w2.heap[w.heap.size]? = some (.cells #[.string ⟨#[]⟩, .slice none 0 0] 37) := (hg2.block _ (by simp; omega) (fun e => by have := hown2 _ e.symm; omega)).trans (at_old Hr1.out)
         have hbF : Bw w w2 := Acc.bw (base := w.heap.size) (bw_al (hbw.drewN 1) _) hg2 (fun g e => Nat.le_trans (by omega) (hown2 g e)) (Nat.le_refl _)
         have hown3 : ∀ g, (Value.slice P2 n2 c2).ownBlock = some g → w.heap.size + 2 ≤ g := fun g e => by
           rcases hat2 with h | h
           · exact hown2 g (h ▸ e)
           · rw [h] at e; injection e with e; subst e; simp; omega
         have e21 := Lib.hid e21
         have e11 := Lib.hid e11
         have d21 := row2_1 e21.out
         have d2f := frozen_of_cells (i := 1) e21.out)
      all_goals
        go_wp2_with fail
        exact ⟨⟨k + 1, P2, n2, c2, hlt, by go_num, bw_grown hbF (set_grown _ _ _ _) (by omega), (set_old (by omega)).trans e11.out, set_row e21.out, hA2.lo_grown (set_grown _ _ _ _) (by cases ho : (Value.slice P2 n2 c2).ownBlock with | none => exact .inl rfl | some g => exact .inr (fun e => by injection e with e; have := hown3 g ho; omega)) (fun g e h => by injection e with e; have := hD g h; omega), hown3⟩, by simp [intOf]; omega⟩
    · have hk2 : k = rs.length := by omega
      subst hk2
      rw [List.take_length] at hacc
      have f10 := row2_0 Hr1.out
      have f11 := row2_1 Hr1.out
      have f1f := frozen_of_cells (i := 0) Hr1.out
      have f1g := frozen_of_cells (i := 1) Hr1.out
      clear h
      go_wp2_with fail
      have e2 := set_row (v := .slice A' n c') (set_row0 (v := .string fm) Hr1.out)
      have hc0 := row2_0 e2
      have hc1 := row2_1 e2
      refine bodyPost_ret (v := .agg #[.string fm, .slice A' n c']) (by simp [results, Tryd.f32, go_sem, hc0, hc1]) rfl ?_
      have hne : ∀ row, row = some w.heap.size → ((Value.slice A' n c').ownBlock = none ∨ (Value.slice A' n c').ownBlock ≠ row) := fun row e => by
        cases ho : (Value.slice A' n c').ownBlock with
        | none => exact .inl rfl
        | some g => exact .inr (fun e' => by rw [e] at e'; injection e' with e'; have := hown2 g ho; omega)
      have hP : ∀ (row : Option Nat), row = some w.heap.size → ∀ g, row = some g → ¬ D g := fun row e g e' h => by rw [e] at e'; injection e' with e'; have := hD g h; omega
      exact ⟨_, rfl, bw_grown (bw_grown hbw (set_grown _ _ _ _) (Nat.le_refl _)) (set_grown _ _ _ _) (Nat.le_refl _), ((hacc.lo_grown (set_grown _ _ _ _) (hne _ rfl) (hP _ rfl)).lo_grown (set_grown _ _ _ _) (hne _ rfl) (hP _ rfl)).sl |> fun h2 => sl_own h2 (fun g e => .inr (by have := hown2 g e; omega)) (fun b hb => .inl hb)⟩

/-- The cohorts of the examples. -/
def sDet : ByteArray := ⟨#[68, 101, 116]⟩
def sN : ByteArray := ⟨#[78]⟩
def sSg : ByteArray := ⟨#[83, 103]⟩
def sV : ByteArray := ⟨#[86]⟩
def sPast : ByteArray := ⟨#[80, 97, 115, 116]⟩
def sPron : ByteArray := ⟨#[80, 114, 111, 110]⟩
def cThe : Coh := (⟨#[116, 104, 101]⟩, [[sDet]])
def cSaw : Coh := (⟨#[115, 97, 119]⟩, [[sN, sSg], [sV, sPast]])
def cIt : Coh := (⟨#[105, 116]⟩, [[sPron]])
def sawL : List Coh := [cThe, cSaw, cIt]

theorem lit2 {w : World} {x y : ByteArray} {e : TypeId} {g : Nat} (hg : w.heap[g]? = some (.cells #[.string x, .string y] e)) (hx : x.size ≤ 9223372036854775807) (hy : y.size ≤ 9223372036854775807) : Rd tStr w (.slice (some ⟨g, 0, none⟩) 2 2) [x, y] :=
  sl_list (css := [[.string x], [.string y]]) hg (Array.getElem?_eq_some_iff.1 hg).1 rfl (by simp [maxLen]) rfl (fun j z cs h1 h2 => by
    match j with
    | 0 => simp at h1 h2; subst h1; subst h2; exact ⟨rfl, by simpa [maxLen] using hx⟩
    | 1 => simp at h1 h2; subst h1; subst h2; exact ⟨rfl, by simpa [maxLen] using hy⟩
    | j + 2 => simp at h1)
theorem litR1 {w : World} {u : Value} {r : Rdg} {e : TypeId} {g : Nat} (hg : w.heap[g]? = some (.cells #[u] e)) (hu : Rd tStr w u r) : Rd tRdg w (.slice (some ⟨g, 0, none⟩) 1 1) [r] :=
  sl_one (cs := [u]) hg (Array.getElem?_eq_some_iff.1 hg).1 ⟨u, rfl, hu⟩
theorem litR2 {w : World} {u v : Value} {r s : Rdg} {e : TypeId} {g : Nat} (hg : w.heap[g]? = some (.cells #[u, v] e)) (hu : Rd tStr w u r) (hv : Rd tStr w v s) : Rd tRdg w (.slice (some ⟨g, 0, none⟩) 2 2) [r, s] :=
  sl_list (css := [[u], [v]]) hg (Array.getElem?_eq_some_iff.1 hg).1 rfl (by simp [maxLen]) rfl (fun j z cs h1 h2 => by
    match j with
    | 0 => simp at h1 h2; subst h1; subst h2; exact ⟨u, rfl, hu⟩
    | 1 => simp at h1 h2; subst h1; subst h2; exact ⟨v, rfl, hv⟩
    | j + 2 => simp at h1)
theorem litC3 {w : World} {u v x : Value} {a b c : Coh} {e : TypeId} {g : Nat} (hg : w.heap[g]? = some (.cells #[.string a.1, u, .string b.1, v, .string c.1, x] e)) (ha : a.1.size ≤ maxLen) (hb : b.1.size ≤ maxLen) (hc : c.1.size ≤ maxLen) (hu : Rd tRdg w u a.2) (hv : Rd tRdg w v b.2) (hx : Rd tRdg w x c.2) :
    Rd tCoh w (.slice (some ⟨g, 0, none⟩) 3 3) [a, b, c] :=
  sl_list (css := [[.string a.1, u], [.string b.1, v], [.string c.1, x]]) hg (Array.getElem?_eq_some_iff.1 hg).1 rfl (by simp [maxLen]) rfl (fun j z cs h1 h2 => by
    match j with
    | 0 => simp at h1 h2; subst h1; subst h2; exact coh_rep ha hu
    | 1 => simp at h1 h2; subst h1; subst h2; exact coh_rep hb hv
    | 2 => simp at h1 h2; subst h1; subst h2; exact coh_rep hc hx
    | j + 3 => simp at h1)

/-- The cohorts of the examples, as 'saw' lays them: the list's block, the readings of its cohorts. -/
structure SawAt (W : World) (g : Nat) (v1 : Value) (b2 o2 c2 : Nat) (v3 x : Value) : Prop where
  row : W.heap[g]? = some (.cells #[.string cThe.1, v1, .string cSaw.1, .slice (some ⟨b2, o2, none⟩) 2 c2, .string cIt.1, v3] 37)
  s1 : Sl tRdg W (Lo g) v1 cThe.2
  s2 : Sl tRdg W (Lo g) (.slice (some ⟨b2, o2, none⟩) 2 c2) cSaw.2
  s3 : Sl tRdg W (Lo g) v3 cIt.2
  c1 : W.cell? ⟨b2, o2, none⟩ = some x
  sx : Rd tStr W x [sN, sSg]
theorem SawAt.after {W W' : World} {g : Nat} {v1 : Value} {b2 o2 c2 : Nat} {v3 x : Value} (h : SawAt W g v1 b2 o2 c2 v3 x) (hb : Bw W W') : SawAt W' g v1 b2 o2 c2 v3 x :=
  have hg := (Array.getElem?_eq_some_iff.1 h.row).1
  ⟨row_bw hb h.row, h.s1.keep fun b hb' => ⟨hb', hb.block b (Nat.lt_trans hb' hg)⟩, h.s2.keep fun b hb' => ⟨hb', hb.block b (Nat.lt_trans hb' hg)⟩, h.s3.keep fun b hb' => ⟨hb', hb.block b (Nat.lt_trans hb' hg)⟩, bw_cell hb h.c1, h.sx.after hb⟩
theorem SawAt.rd {W : World} {g : Nat} {v1 : Value} {b2 o2 c2 : Nat} {v3 x : Value} (h : SawAt W g v1 b2 o2 c2 v3 x) : Rd tCoh W (.slice (some ⟨g, 0, none⟩) 3 3) sawL :=
  litC3 (a := cThe) (b := cSaw) (c := cIt) h.row (by decide) (by decide) (by decide) h.s1.rd h.s2.rd h.s3.rd

set_option maxRecDepth 100000 in
set_option maxHeartbeats 4000000 in
theorem saw_any {w : World} : Calls Tryd.prog 30 #[] w fun e w' => ∃ g A1 n1 c1 b2 o2 c2 A3 n3 c3 P m q, e = .returned (.slice (some ⟨g, 0, none⟩) 3 3) ∧ Bw w w' ∧ w.heap.size ≤ g ∧ SawAt w' g (.slice A1 n1 c1) b2 o2 c2 (.slice A3 n3 c3) (.slice P m q) := by
  go_enter Tryd.func30, Tryd.ntmps30
  go_wp2_with fail
  refine (cohort_any (fm := cThe.1) (rs := cThe.2) (litR1 (at_new (by simp)) (lit1 (at_old (at_new rfl)) (by decide))) (fun _ h => h) (by decide)).mono ?_
  rintro e w1 ⟨u1, rfl, hb1, hu1⟩
  have hu1 := hu1.rd
  obtain ⟨A1, n1, c1, rfl, _, _, _⟩ := hu1.form'
  go_wp2_with fail
  refine (cohort_any (fm := cSaw.1) (rs := cSaw.2) (litR2 (at_new (by simp)) (lit2 (at_old (at_old (at_new rfl))) (by decide) (by decide)) (lit2 (at_old (at_new (by simp))) (by decide) (by decide))) (fun _ h => h) (by decide)).mono ?_
  rintro e w2 ⟨u2, rfl, hb2, hu2⟩
  have hu2 := hu2.rd
  obtain ⟨A2, n2, c2, rfl, _, _, Hn2⟩ := hu2.form'
  have k2 : Bw w1 w2 := (bw_al (bw_al (bw_refl_al w1 _) _) _).then hb2
  go_wp2_with fail
  refine (cohort_any (fm := cIt.1) (rs := cIt.2) (litR1 (at_new (by simp)) (lit1 (at_old (at_new rfl)) (by decide))) (fun _ h => h) (by decide)).mono ?_
  rintro e w3 ⟨u3, rfl, hb3, hu3⟩
  have hu3 := hu3.rd
  obtain ⟨A3, n3, c3, rfl, _, _, _⟩ := hu3.form'
  have k3 : Bw w2 w3 := (bw_al (bw_refl_al w2 _) _).then hb3
  go_wp2_with fail
  go_ret
  have k4 := bw_refl_al w3 (.cells #[.string cThe.1, .slice A1 n1 c1, .string cSaw.1, .slice A2 n2 c2, .string cIt.1, .slice A3 n3 c3] 37)
  have hw3 := ((((bw_al (bw_refl_al w _) _).then hb1).then k2).then k3)
  have e1 := hu1.after (k2.then k3)
  have e2 := hu2.after k3
  obtain ⟨b2, o2, x, u0, hA2, hx, hxr, hc⟩ := lookR (k := 0) e2 (by decide)
  subst hA2
  obtain rfl : n2 = 2 := Hn2.out
  obtain ⟨_, e, hxu⟩ := rep_rdg hxr
  injection e with e; subst e
  obtain ⟨P, q, rfl, _, _⟩ := hxu.form
  obtain rfl : x = [sN, sSg] := by have := hx.out; injection this with this; exact this.symm
  exact ⟨w3.heap.size, A1, n1, c1, b2, o2, c2, A3, n3, c3, P, _, q, rfl, hw3.then k4, hw3.size, at_new rfl, e1.keep fun b hb => ⟨hb, at_old_eq hb⟩, e2.keep fun b hb => ⟨hb, at_old_eq hb⟩, hu3.keep fun b hb => ⟨hb, at_old_eq hb⟩, bw_cell k4 hc, hxu.rd.after k4⟩
end Go.Proofs.YthecmbmidoagaaaDoor

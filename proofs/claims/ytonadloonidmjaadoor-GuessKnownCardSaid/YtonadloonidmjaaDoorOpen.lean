/- From the reading of the arguments to what the contracts speak of; and the last step of a law that answers true and leaves what it was given. Conditions: the readings of the arguments. Plain theorems, of whatever program. -/
import Derived.Test.YtonadloonidmjaaDoorLib
import Derived.Deep.Slices
import Derived.Lib.SmallJoins
import Derived.ChangeSame
import Derived.WideKeyArgs
import Derived.OpenShut
import Derived.RowKit
namespace Go.Proofs.YtonadloonidmjaaDoor
open Go.RowKit Go.WideShapes Go.ChangeShapes Go.Deep

section
variable {H : Type} {enc : TypeId × Value → H} {P : Program} {w : World} {base : Nat} {spare : Nat → Bool} {held : Bool}

/-- Whatever cells are read at type t are data of kind T. -/
def Opn {α : Type} (enc : TypeId × Value → H) (P : Program) (w : World) (base : Nat) (spare : Nat → Bool) (held : Bool) (T : Ty α) (t : TypeId) : Prop :=
  ∀ (fuel : Nat) (cs : List Value) (x : DataW H × List MemPlace), DataW.trod enc P w base spare held fuel t cs = some x → ∃ y, T.rep w (fun b => b < w.heap.size) cs y

theorem opn_int {t : TypeId} (ht : P.underlying t = some (.int .i64)) : Opn enc P w base spare held tInt t := fun fuel cs x h => by
  obtain ⟨n, rfl, _, hw⟩ := DataW.trod_int ht h
  simp only [Lit.wf, IntKind.min, IntKind.max, IntKind.signed, IntKind.bits] at hw
  have hw2 : -9223372036854775808 ≤ n ∧ n ≤ 9223372036854775807 := by simpa using hw
  obtain ⟨h1, h2⟩ := hw2
  exact ⟨n, rfl, h1, h2⟩
theorem opn_bool {t : TypeId} (ht : P.underlying t = some .bool) : Opn enc P w base spare held tBool t := fun fuel cs x h => by
  obtain ⟨b, rfl, _⟩ := DataW.trod_bool ht h
  exact ⟨b, rfl⟩
theorem opn_str {t : TypeId} (ht : P.underlying t = some .string) : Opn enc P w base spare held tStr t := fun fuel cs x h => by
  obtain ⟨s, rfl, _, hl⟩ := DataW.trod_string ht h
  exact ⟨s, rfl, hl⟩
theorem opn_slice {α : Type} {T : Ty α} {t e : TypeId} (ht : P.underlying t = some (.slice e)) (hc : P.cellsOf e = T.size) (he : Opn enc P w base spare held T e) : Opn enc P w base spare held (tSlice T) t := fun fuel cs x h => by
  rcases open_slice ht h with ⟨rfl, _⟩ | ⟨a, len, cap, m, n, D, Pl, rfl, _, hl, hm, hmm, _, hx⟩
  · exact ⟨[], _, rfl, Sl.nil⟩
  · have hlm : len ≤ m := by rw [hmm]; split <;> omega
    have hy : ∀ i, i < len → ∃ y cs', w.cells? base (a.add (i * P.cellsOf e)) (P.cellsOf e) = some cs' ∧ T.rep w (fun b => b < w.heap.size) cs' y := fun i hi => by
      obtain ⟨cs', h1, h2⟩ := hx i (by omega)
      obtain ⟨y, hy⟩ := he _ _ _ h2
      exact ⟨y, cs', h1, hy⟩
    by_cases h0 : len = 0
    · subst h0
      exact ⟨[], _, rfl, Sl.empty _ _ hm⟩
    · obtain ⟨y0, hy0⟩ := hy 0 (by omega)
      obtain ⟨ys, hys⟩ : ∃ ys : List α, ys.length = len ∧ ∀ i y, ys[i]? = some y → ∃ cs', w.cells? base (a.add (i * P.cellsOf e)) (P.cellsOf e) = some cs' ∧ T.rep w (fun b => b < w.heap.size) cs' y := by
        clear hx h0 hy0 hm hl hmm hlm h
        revert hy
        generalize len = len
        intro hy
        induction len with
        | zero => exact ⟨[], rfl, fun i y h => by simp at h⟩
        | succ k ih =>
          obtain ⟨ys, h1, h2⟩ := ih fun i hi => hy i (by omega)
          obtain ⟨y, hy'⟩ := hy k (by omega)
          refine ⟨ys ++ [y], by simp [h1], fun i z hz => ?_⟩
          by_cases hi : i < k
          · rw [List.getElem?_append_left (by omega)] at hz
            exact h2 i z hz
          · by_cases hik : i = k
            · subst hik
              rw [List.getElem?_append_right (by omega), h1] at hz
              simp at hz; subst hz
              exact hy'
            · have := (List.getElem?_eq_some_iff.1 hz).1
              simp at this; omega
      obtain ⟨hyl, hyc⟩ := hys
      have hsp : a.spot = none ∧ a.block < w.heap.size := by
        obtain ⟨cs', h1, h2⟩ := hy0
        have hl1 := T.len h2
        have hp := T.pos
        obtain ⟨_, hcl, hcc⟩ := World.cells?_some h1
        have hc0 : 0 < cs'.length := by omega
        have := (hcc 0 (by omega)).trans (List.getElem?_eq_getElem hc0)
        have e1 : (a.add (0 * P.cellsOf e)).add 0 = a := by unfold Addr.add; simp
        rw [e1] at this
        unfold World.cell? at this
        split at this
        · rename_i hb
          split at this
          · cases this
          · rename_i hs
            refine ⟨by simpa using hs, ?_⟩
            exact (Array.getElem?_eq_some_iff.1 hb).1
        · cases this
      obtain ⟨b, off, spot⟩ := a
      obtain ⟨hs, hb⟩ := hsp
      simp only at hs hb
      subst hs
      refine ⟨ys, _, rfl, some ⟨b, off, none⟩, cap, by rw [hyl], by omega, hm, .inr ⟨b, off, rfl, hb, fun j x hj => ?_⟩⟩
      obtain ⟨cs', h1, h2⟩ := hyc j x hj
      obtain ⟨_, hcl, hcc⟩ := World.cells?_some h1
      refine ⟨cs', h2, fun i v hi => ?_⟩
      have := (hcc i (by have := (List.getElem?_eq_some_iff.1 hi).1; omega)).trans hi
      rw [add_add] at this
      rw [← hc, show off + j * P.cellsOf e + i = off + (j * P.cellsOf e + i) by omega]
      have ea : (⟨b, off, none⟩ : Addr).add (j * P.cellsOf e + i) = ⟨b, off + (j * P.cellsOf e + i), none⟩ := by
        unfold Addr.add; split
        · rename_i h0; rw [h0]; rfl
        · rfl
      rwa [ea] at this

/-- A slice argument. -/
theorem opn_arg {α : Type} {T : Ty α} {t : TypeId} (h : Opn enc P w base spare held (tSlice T) t) {fuel : Nat} {v : Value} {x : DataW H × List MemPlace} (hx : DataW.trod enc P w base spare held fuel t [v] = some x) : ∃ ys, Rd T w v ys := by
  obtain ⟨y, u, h1, h2⟩ := h _ _ _ hx
  injection h1 with h1
  subst h1
  exact ⟨y, h2⟩
end

section
variable {H : Type} {enc : TypeId × Value → H} {P : Program}

theorem trodAll_stays (hl : laidOutB P = true) {W W' : World} {base : Nat} {sp' : Nat → Bool} : ∀ (ts : List TypeId), (∀ t ∈ ts, P.readableRec t = true ∧ t < P.types.size) → ∀ (vs : List Value) (ds : List (DataW H)) (ps : List MemPlace),
    DataW.TrodAll enc P W base (fun _ => true) true ts vs ds ps → (∀ p ∈ ps, W.sameAt W' p) → (∀ p ∈ ps, sp' p.block = true) → DataW.TrodAll enc P W' base sp' true ts vs ds ps
  | [], _, vs, ds, ps, h, _, _ => by
    obtain ⟨rfl, rfl, rfl⟩ := trodAll_nil h
    exact trodAll_mk0
  | t :: ts, hr, vs, ds, ps, h, hs, hsp => by
    obtain ⟨v, vs', d, ds', p, q, rfl, rfl, rfl, h1, h2⟩ := trodAll_cons h
    exact trodAll_cons_mk (Go.WideElems.Trod_stays hl (hr t (by simp)).1 (hr t (by simp)).2 h1 (fun x hx => hs x (List.mem_append_left _ hx)) (fun x hx => hsp x (List.mem_append_left _ hx)))
      (trodAll_stays hl ts (fun t ht => hr t (by simp [ht])) vs' ds' q h2 (fun x hx => hs x (List.mem_append_right _ hx)) (fun x hx => hsp x (List.mem_append_right _ hx)))

/-- THE LAST STEP: the call answered true and what was there is as it was. -/
theorem post_true {f : Func} {s : ChangeSpec} {apart fresh handsOn again : Bool} {W W' : World} {args : Array Value} {ds gs : List (DataW H)} {before : List MemPlace} {t4 : TypeId}
    (hl : laidOutB P = true) (hr : ∀ t ∈ f.params.toList, P.readableRec t = true ∧ t < P.types.size) (ht : f.resultTypes = #[t4]) (h4 : P.underlying t4 = some .bool) (hs : s.vars = [])
    (hW : DataW.Whole enc P f.params.toList s.vars apart W args.toList ds gs before)
    (hfn : s.fn H (ds ++ gs) = { results := [.lit (.bool true)], args := ds }) (hb : Below W.heap.size W W') :
    s.post enc P f apart fresh handsOn again W args (.bool true) W' := by
  have hlt : ∀ p ∈ before, p.block < W.heap.size := fun p hp => hW.lt p hp
  have hold : ∀ p ∈ before, (fun b => decide (b < W.heap.size)) p.block = true := fun p hp => by simpa using hlt p hp
  have hW2 := hW
  obtain ⟨p, q, hA, hV, hpq, hz, hn⟩ := hW2
  rw [hs] at hV
  obtain ⟨rfl, rfl⟩ := trodVars_none hV
  rw [List.append_nil] at hpq hfn
  subst hpq
  have hres : ∀ (b : Nat) (sp : Nat → Bool) (hd : Bool), DataW.TrodAll enc P W' b sp hd f.resultTypes.toList ((Value.bool true).resultList f.resultTypes.size) (s.fn H (ds ++ [])).results [] := fun b sp hd => by
    rw [List.append_nil, hfn, ht]
    exact trodAll_cons_mk (shut_bool h4 true) trodAll_mk0
  have hargs : ∀ sp : Nat → Bool, (∀ p ∈ before, sp p.block = true) → DataW.TrodAll enc P W' 0 sp true f.params.toList args.toList (s.fn H (ds ++ [])).args before := fun sp hsp => by
    rw [List.append_nil, hfn]
    exact trodAll_stays hl _ hr _ _ _ hA (fun x hx => hb.same (hlt x hx)) hsp
  have hvars : ∀ sp : Nat → Bool, (∀ p ∈ before, sp p.block = true) → DataW.TrodVars enc P W' sp s.vars (s.fn H (ds ++ [])).vars [] := fun sp _ => by
    rw [List.append_nil, hfn, hs]
    rfl
  refine ⟨ds, [], before, [], before, [], hW, hres _ _ _, hargs _ hold, hvars _ hold, World.keptBut_mono (fun p hp => ⟨hp, Or.inr (Or.inl hp)⟩) (hb.frame (· ∈ before)), fun _ => ?_⟩
  refine ⟨ok_one ht rfl (okWide_bool_mk h4 true), _, _, ([] ++ before) ++ [], ⟨[] ++ before, [], trodAll_append (hargs _ (fun _ _ => rfl)) (hres _ _ _), hvars _ (fun _ _ => rfl), rfl, ?_, ?_⟩, ?_⟩
  · intro b off hp
    have hin : MemPlace.cell b off ∈ before := by simpa using hp
    rw [hb.frozen (hlt _ hin)]
    exact hz b off hin
  · intro ha
    simpa using hn ha
  · intro p hp _
    simpa using hp
end
end Go.Proofs.YtonadloonidmjaaDoor

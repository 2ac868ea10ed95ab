/- The contracts of the library's stable sort of endings by their counts, for fewer than 20 of them. Conditions: the endings stand in order of their tags. -/
import Derived.Test.YtonadloonidmjaaDoorG9
import Derived.Test.YtonadloonidmjaaDoorGS
namespace Go.Proofs.YtonadloonidmjaaDoor
open Go.RowKit Go.Sort
open Pl

theorem likes_any {u1 u2 s1 s2 : Value} {c1 c2 : Int} {w : World} :
    Calls Tryd.prog 32 #[.agg #[u1, s1, .int .i64 c1], .agg #[u2, s2, .int .i64 c2]] w fun e w' => e = .returned (.int .i64 (cmpI c2 c1)) ∧ Gr w w' := by
  go_enter Tryd.func32, Tryd.ntmps32
  go_wp2_with fail
  refine (cmpI_any _ _).mono ?_
  rintro e w1 ⟨rfl, rfl⟩
  go_wp2_with fail
  go_ret
  exact ⟨rfl, ((Gr.refl w).alloc _).alloc _⟩
theorem enters32 : ∀ (args : Array Value) (W : World), (callFunc 32 args).run Tryd.prog W = .ok (.enter 32 args) W := enters_of Tryd.func32 (by kernel_rfl) rfl

abbrev ElE (w : World) (base g : Nat) := ElV tEn w (fun b => base ≤ b ∧ b ≠ g)
/-- By the counts, the greater first. -/
def cfC {w : World} {D : Nat → Prop} (p q : ElV tEn w D) : Int := cmpI q.x.2.2 p.x.2.2
theorem ltC_eq {w : World} {D : Nat → Prop} (p q : ElV tEn w D) : Go.Proofs.ltOf cfC p q = decide (q.x.2.2 < p.x.2.2) := by
  unfold Go.Proofs.ltOf cfC cmpI
  by_cases h1 : q.x.2.2 < p.x.2.2
  · rw [if_pos h1, decide_eq_true h1]; rfl
  · rw [if_neg h1, decide_eq_false h1]
    split <;> rfl
theorem lays32 {w : World} {base g : Nat} [Inhabited (ElE w base g)] (n : Nat) : Go.Proofs.CmpLays Tryd.prog 32 #[] (encV (T := tEn) (w := w) (D := fun b => base ≤ b ∧ b ≠ g)) 3 cfC g 0 n w := by
  intro m os dk _ p q
  obtain ⟨u1, e1, _, _, _⟩ := en_rep p.ok
  obtain ⟨u2, e2, _, _, _⟩ := en_rep q.ok
  unfold encV cfC
  rw [e1, e2]
  exact likes_any
theorem agr_tags {w : World} {D : Nat → Prop} [Inhabited (ElV tEn w D)] {d : Array (ElV tEn w D)} (h : (d.toList.map (·.x)).Pairwise fun a b => cmpB a.2.1 b.2.1 < 0) {a b : Nat} (hb : b ≤ d.size) :
    Agr (Go.Proofs.ltOf cfC) (fun p q : ElV tEn w D => lkB p.x q.x) a b d := by
  intro p q _ h2 h3
  have hp : p < d.size := by omega
  have hq : q < d.size := by omega
  rw [List.pairwise_map] at h
  have hpq := List.pairwise_iff_getElem.1 h p q (by simpa using hp) (by simpa using hq) h2
  rw [Array.getElem_toList, Array.getElem_toList] at hpq
  rw [ltC_eq, getElem!_pos d p hp, getElem!_pos d q hq]
  generalize d[p] = y at *
  generalize d[q] = x at *
  rw [Bool.eq_iff_iff, decide_eq_true_iff, lk_iff]
  exact ⟨fun h1 => .inl h1, fun h1 => h1.elim id fun h4 => absurd hpq (totB.asym h4.2)⟩

set_option maxRecDepth 100000 in
theorem stable52_small {w : World} {base g cap : Nat} [Inhabited (ElE w base g)] {d : Array (ElE w base g)} (hH : HoldsK (encV (T := tEn)) 3 w g 0 d) (hg : g < w.heap.size) (hd : d.size < 20) :
    Calls Tryd.prog 52 #[.slice (some ⟨g, 0, none⟩) d.size cap, .int .i64 d.size, .func (.func 32) #[] #[]] w fun e w' => e = .returned (.tuple #[]) ∧ ∃ n os, w' = sortWorldK (encV (T := tEn)) 3 w g 0 n (insertionSort (Go.Proofs.ltOf cfC) d 0 d.size) os := by
  have HI : Hid (Calls Tryd.prog 60 #[.slice (some ⟨g, 0, none⟩) d.size cap, .int .i64 0, .int .i64 d.size, .func (.func 32) #[] #[]] w fun e w' => e = .returned (.tuple #[]) ∧ ∃ n os, w' = sortWorldK (encV (T := tEn)) 3 w g 0 n (insertionSort (Go.Proofs.ltOf cfC) d 0 d.size) os) := (Go.Proofs.AnyQ.insertionSortCmpFunc Tryd.insE 3 Tryd.isAgg37 Tryd.sizeOf37 (encV (T := tEn)) (fun p => encV_len p) (fun p => encV_one p) cfC 32 #[] g 0 cap 0 d.size d w enters32 (lays32 d.size) hH hg (Nat.zero_le _) (Nat.le_refl _) (by omega))
  have z1 : ¬ (20 : Int) ≤ d.size := by omega
  have z2 : ¬ (20 : Int) < d.size := by omega
  go_enter Tryd.func52, Tryd.ntmps52
  go_wp2_with fail
  go_loopw [7, 8] (fun a b wr => a = .int .i64 0 ∧ b = .int .i64 20 ∧ wr = w) (fun _ _ _ => 0)
  case atStart => exact ⟨rfl, rfl, rfl⟩
  case round =>
    obtain ⟨rfl, rfl, rfl⟩ := hrel
    go_wp2_with fail
    with_reducible refine HI.out.mono ?_
    rintro e w' ⟨rfl, hw'⟩
    clear HI
    go_wp2_with fail
    go_loopw [6] (fun a wr => a = .int .i64 20 ∧ wr = w') (fun _ _ => 0)
    case atStart => exact ⟨rfl, rfl⟩
    case round =>
      obtain ⟨rfl, rfl⟩ := hrel
      go_wp2_with fail
      go_end0
      exact ⟨rfl, hw'⟩

/-- The stable sort, for fewer than 20 endings in order of their tags. -/
theorem stable_small {v : Value} {xs : List En} {base : Nat} {w : World} (h : Acc tEn 37 w base v xs) (h0 : 0 < xs.length) (h20 : xs.length < 20) (ht : xs.Pairwise fun a b => cmpB a.2.1 b.2.1 < 0) :
    Calls Tryd.prog 31 #[v, .func (.func 32) #[] #[]] w fun e w' => e = .returned (.tuple #[]) ∧ Acc tEn 37 w' base v (sortL xs) ∧ ∃ g, base ≤ g ∧ w.grownBy w' (some g) := by
  obtain ⟨g, cap, rfl, hbg, hg, hcap, I, d, hd, hH⟩ := h.els h0
  have hsz : d.size = xs.length := by rw [← hd]; simp
  have HS : Hid (Calls Tryd.prog 52 #[.slice (some ⟨g, 0, none⟩) xs.length cap, .int .i64 xs.length, .func (.func 32) #[] #[]] w fun e w' => e = .returned (.tuple #[]) ∧ ∃ n os, w' = sortWorldK (encV (T := tEn)) 3 w g 0 n (insertionSort (Go.Proofs.ltOf cfC) d 0 d.size) os) := by
    show Calls _ _ _ _ _
    rw [← hsz]
    exact stable52_small hH hg (by omega)
  have hag := insertionSort_agree (Nat.le_refl _) (agr_tags (by rw [hd]; exact ht) (a := 0) (Nat.le_refl d.size))
  have hspec := insertionSort_holds (swo_lk (fun p : ElE w base g => p.x)) d 0 d.size (Nat.zero_le _) (Nat.le_refl _)
  rw [← hag] at hspec
  have hres := Lib.hid (sortL_arr hspec.1 hspec.2 (by rw [hd]; exact ht.imp fun h => totB.ne h))
  have hsz2 : (insertionSort (Go.Proofs.ltOf cfC) d 0 d.size).size = xs.length := by rw [hspec.1.1, hsz]
  have HA := Lib.hid (fun n os => els_back h (insertionSort (Go.Proofs.ltOf cfC) d 0 d.size) hsz2 n os)
  rw [hd] at hres
  have hG := Lib.hid (fun n os => grown_sortK (T := tEn) (w := w) (g := g) (D := fun b => base ≤ b ∧ b ≠ g) n (insertionSort (Go.Proofs.ltOf cfC) d 0 d.size) os)
  clear hag hspec hsz2 h hd ht
  go_enter Tryd.func31, Tryd.ntmps31
  go_wp2_with fail
  with_reducible refine HS.out.mono ?_
  rintro e w' ⟨rfl, n, os, rfl⟩
  have hA := HA.out n os
  rw [hres.out, hsz] at hA
  have hG := hG.out n os
  rw [hsz] at hG
  go_wp2_with fail
  go_end0
  exact ⟨rfl, hA, g, hbg, hG⟩
end Go.Proofs.YtonadloonidmjaaDoor

/- The contract of the library's sort of endings, by their words and tags. Conditions: no two have the same word and tags. -/
import Derived.Test.YtonadloonidmjaaDoorGT
namespace Go.Proofs.YtonadloonidmjaaDoor
open Go.RowKit Go.Sort
open Pl

theorem enters24 : ∀ (args : Array Value) (W : World), (callFunc 24 args).run Tryd.prog W = .ok (.enter 24 args) W := enters_of Tryd.func24 (by kernel_rfl) rfl
def cfE {w : World} {D : Nat → Prop} (p q : ElV tEn w D) : Int := ordK (kyE p.x) (kyE q.x)
theorem lays24 {w : World} {base g : Nat} [Inhabited (ElE w base g)] (n : Nat) : Go.Proofs.CmpLays Tryd.prog 24 #[] (encV (T := tEn) (w := w) (D := fun b => base ≤ b ∧ b ≠ g)) 3 cfE g 0 n w := by
  intro m os dk _ p q
  obtain ⟨u1, e1, h1, _, _⟩ := en_rep (p.at m dk os)
  obtain ⟨u2, e2, h2, _, _⟩ := en_rep (q.at m dk os)
  have H := compare_any (a := p.x) (b := q.x) h1 h2
  unfold encV cfE
  rw [e1, e2]
  exact H
theorem sort23 {v : Value} {xs : List En} {base : Nat} {w : World} (h : Acc tEn 37 w base v xs) (hd : xs.Pairwise fun a b => kyE a ≠ kyE b) (hl : xs.length < 4611686018427387904) :
    Calls Tryd.prog 23 #[v, .func (.func 24) #[] #[]] w fun e w' => e = .returned (.tuple #[]) ∧ (∃ ys, SK ys ∧ ys.Perm xs ∧ Acc tEn 37 w' base v ys) ∧ ∃ g, base ≤ g ∧ w.grownBy w' (some g) := by
  by_cases h0 : 0 < xs.length
  · obtain ⟨g, cap, rfl, hbg, hg, hcap, I, d, hdx, hH⟩ := h.els h0
    have hsz : d.size = xs.length := by rw [← hdx]; simp
    have HS := Go.Proofs.AnyQ.slices_SortFunc Tryd.sortE 3 Tryd.isAgg37 Tryd.sizeOf37 (encV (T := tEn)) (fun p => encV_len p) (fun p => encV_one p) cfE (swo_ord fun p : ElE w base g => p.x) 24 #[] g 0 cap d w enters24 (lays24 d.size) hH hg (by omega)
    rw [hsz] at HS
    refine HS.mono ?_
    rintro e w' ⟨rfl, d', n, os, hp, hs, rfl⟩
    have hp : PermIn 0 d.size d d' := by rw [hsz]; exact hp
    have hs : SortedIn (fun p q : ElE w base g => decide (ordK (kyE p.x) (kyE q.x) < 0)) 0 d.size d' := by rw [hsz]; exact hs
    obtain ⟨h1, h2⟩ := ord_arr hp hs (by rw [hdx]; exact hd)
    rw [hdx] at h2
    exact ⟨rfl, ⟨_, h1, h2, els_back h d' (by rw [hp.1, hsz]) n os⟩, g, hbg, grown_sortK n d' os⟩
  · have hx : xs = [] := List.eq_nil_of_length_eq_zero (by omega)
    subst hx
    obtain ⟨A, c, rfl, _, _⟩ := h.form
    refine (Go.Proofs.AnyF.slices_SortFunc_none Tryd.sortE A c _ w).mono ?_
    rintro e w' ⟨rfl, rfl⟩
    exact ⟨rfl, ⟨[], List.Pairwise.nil, List.Perm.refl _, h⟩, base, Nat.le_refl _, rfl, rfl, rfl, Nat.le_refl _, fun _ _ _ => rfl⟩
end Go.Proofs.YtonadloonidmjaaDoor

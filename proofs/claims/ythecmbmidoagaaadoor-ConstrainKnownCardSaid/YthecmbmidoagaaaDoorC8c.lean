/- The closures of 'changed': a test that fails, a reading that has the target, one that has not. Conditions: what the captured variables hold. -/
import Derived.Test.YthecmbmidoagaaaDoorC8b
namespace Go.Proofs.YthecmbmidoagaaaDoor
open Go.RowKit Go.Maps
open Pl

theorem c1_any {gl gi : Nat} {u1 u2 v : Value} {t : Tst} {l : List Coh} {i : Int} {w : World} (hcl : w.cell? ⟨gl, 0, none⟩ = some v) (hci : w.cell? ⟨gi, 0, none⟩ = some (.int .i64 i)) (h1 : Rd tStr w u1 t.tags) (h2 : Rd tStr w u2 t.bar) (hl : Rd tCoh w v l)
    (hi : 0 ≤ i ∧ i < l.length) (ha : -99 ≤ t.at' ∧ t.at' ≤ 99) (hm : l.length ≤ 200) :
    Calls Tryd.prog 57 #[.agg #[.int .i64 t.at', .bool t.scan, .bool t.neg, .bool t.care, u1, u2], .pointer (some ⟨gl, 0, none⟩), .pointer (some ⟨gi, 0, none⟩)] w fun e w' => e = .returned (.bool (!holdB t l i)) ∧ Bw w w' := by
  have hb1 := bw_refl_al w (.cells #[.int .i64 t.at', .bool t.scan, .bool t.neg, .bool t.care, u1, u2] 28)
  have HC := Lib.hid (holds_any (h1.after hb1) (h2.after hb1) (hl.after hb1) hi ha hm)
  have k1 := bw_cell hb1 hcl
  have k2 := bw_cell hb1 hci
  clear h1 h2 hl
  go_enter Tryd.func57, Tryd.ntmps57
  go_wp2_with ((with_reducible refine HC.out.mono ?_); rintro e w' ⟨rfl, hb⟩)
  go_ret
  exact ⟨rfl, hb1.then hb⟩
theorem c1_asks {gl gi : Nat} {v : Value} {l : List Coh} {i : Int} {ts : List Tst} {w : World} (hcl : w.cell? ⟨gl, 0, none⟩ = some v) (hci : w.cell? ⟨gi, 0, none⟩ = some (.int .i64 i)) (hl : Rd tCoh w v l)
    (hi : 0 ≤ i ∧ i < l.length) (ha : ∀ t ∈ ts, -99 ≤ t.at' ∧ t.at' ≤ 99) (hm : l.length ≤ 200) :
    Asks tTst vAgg 57 #[.pointer (some ⟨gl, 0, none⟩), .pointer (some ⟨gi, 0, none⟩)] w ts (fun t => !holdB t l i) := by
  refine ⟨fun _ _ => by kernel_rfl, ?_⟩
  rintro t cs w2 hx hb hrep
  obtain ⟨u1, u2, rfl, _, h1, h2⟩ := rep_tst hrep
  exact c1_any (bw_cell hb hcl) (bw_cell hb hci) h1.rd h2.rd (hl.after hb) hi (ha t hx) hm

theorem grown_cell {w w' : World} {r : Option Nat} {p : Addr} {v : Value} (hg : w.grownBy w' r) (h : w.cell? p = some v) (hne : r ≠ some p.block) : w'.cell? p = some v :=
  (World.cell?_of_block (hg.block p.block (World.block_lt_of_cell? w p h) (fun e => hne e.symm))).trans h
theorem c2_asksG {g B : Nat} {r : Option Nat} {v : Value} {l : List Rdg} {tags : List ByteArray} {w : World} (hc : w.cell? ⟨g, 1, none⟩ = some v) (ht : Sl tStr w (Lo B) v tags) (hr1 : r ≠ some g) (hrB : ∀ k, r = some k → B ≤ k) :
    AsksG r 58 #[.pointer (some ⟨g, 0, none⟩)] w l (fun x => hasB x tags) := by
  refine ⟨fun _ _ => by kernel_rfl, ?_⟩
  rintro x u wr hx hgr hu
  exact c2_any (grown_cell hgr hc hr1) hu (ht.lt.keep (D' := fun b => b < wr.heap.size) fun b hb => ⟨Nat.lt_of_lt_of_le hb.2 hgr.size, hgr.block b hb.2 (fun e => by have := hrB b e.symm; have := hb.1; omega)⟩)
theorem c3_one {g : Nat} {K : FuncId} {caps : Array Value} {u : Value} {b : Bool} {w : World} (hc : w.cell? ⟨g, 0, none⟩ = some (.func (.func K) #[] caps)) (he : ∀ (args : Array Value) (W : World), (callFunc K args).run Tryd.prog W = .ok (.enter K args) W)
    (HC0 : Calls Tryd.prog K (#[.agg #[u]] ++ caps) (w.alloc (.cells #[u] 24)) fun e w' => e = .returned (.bool b) ∧ Bw (w.alloc (.cells #[u] 24)) w') :
    Calls Tryd.prog 59 #[.agg #[u], .pointer (some ⟨g, 0, none⟩)] w fun e w' => e = .returned (.bool (!b)) ∧ Bw w w' := by
  have hb1 := bw_refl_al w (.cells #[u] 24)
  have HC := Lib.hid HC0
  have hcf := he (#[.agg #[u]] ++ caps) (w.alloc (.cells #[u] 24))
  have hc' := bw_cell hb1 hc
  clear HC0 he
  go_enter Tryd.func59, Tryd.ntmps59
  go_wp2_with ((with_reducible refine HC.out.mono ?_); rintro e w' ⟨rfl, hb2⟩)
  go_ret
  exact ⟨rfl, hb1.then hb2⟩
theorem c3_asksG {g : Nat} {r : Option Nat} {K : FuncId} {caps : Array Value} {l : List Rdg} {p : Rdg → Bool} {w : World} (hc : w.cell? ⟨g, 0, none⟩ = some (.func (.func K) #[] caps)) (ha : AsksG r K caps w l p) (hr1 : r ≠ some g) :
    AsksG r 59 #[.pointer (some ⟨g, 0, none⟩)] w l (fun x => !p x) := by
  refine ⟨fun _ _ => by kernel_rfl, ?_⟩
  rintro x u wr hx hgr hu
  have hb1 := bw_refl_al wr (.cells #[u] 24)
  exact c3_one (grown_cell hgr hc hr1) ha.1 (ha.2 x u _ hx (hgr.trans (grown_bw hb1 _)) (hu.after hb1))
end Go.Proofs.YthecmbmidoagaaaDoor

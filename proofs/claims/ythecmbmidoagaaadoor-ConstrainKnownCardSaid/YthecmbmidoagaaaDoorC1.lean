/- The kinds of data of the chapter on constraint rules: readings, cohorts, tests, rules, steps, as cells of memory. Conditions: none. -/
import Derived.Test.YthecmbmidoagaaaDoorStruct
import Derived.Test.YthecmbmidoagaaaDoorSpec
import Derived.Lib.Hide
namespace Go.Proofs.YthecmbmidoagaaaDoor
open Go.RowKit
open Pl

abbrev tRdg : Ty Rdg := tSlice tStr
abbrev tCoh : Ty Coh := tPair tStr (tSlice tRdg)
def tTst : Ty Tst := tMap (tPair tInt (tPair tBool (tPair tBool (tPair tBool (tPair tRdg tRdg))))) fun t => (t.at', t.scan, t.neg, t.care, t.tags, t.bar)
def tRul : Ty Rul := tMap (tPair tInt (tPair tRdg (tPair (tSlice tTst) tBool))) fun r => (r.op, r.target, r.tests, r.wild)
abbrev Stp := Int × Int × Int
abbrev tStp : Ty Stp := tPair tInt (tPair tInt tInt)
theorem size_rdg : tRdg.size = 1 := rfl
theorem size_coh : tCoh.size = 2 := rfl
theorem size_tst : tTst.size = 6 := rfl
theorem size_rul : tRul.size = 4 := rfl
theorem size_stp : tStp.size = 3 := rfl

section
variable {w : World} {D : Nat → Prop} {cs : List Value}
theorem rep_rdg {r : Rdg} (h : tRdg.rep w D cs r) : ∃ u, cs = [u] ∧ Sl tStr w D u r := h
theorem rep_coh {c : Coh} (h : tCoh.rep w D cs c) : ∃ u, cs = [.string c.1, u] ∧ c.1.size ≤ maxLen ∧ Sl tRdg w D u c.2 := by
  obtain ⟨c1, c2, rfl, ⟨rfl, h1⟩, u, rfl, h2⟩ := h
  exact ⟨u, rfl, h1, h2⟩
theorem coh_rep {c : Coh} {u : Value} (h1 : c.1.size ≤ maxLen) (h2 : Sl tRdg w D u c.2) : tCoh.rep w D [.string c.1, u] c := ⟨[_], [_], rfl, ⟨rfl, h1⟩, u, rfl, h2⟩
theorem rep_tst {t : Tst} (h : tTst.rep w D cs t) : ∃ u1 u2, cs = [.int .i64 t.at', .bool t.scan, .bool t.neg, .bool t.care, u1, u2] ∧ inI64 t.at' ∧ Sl tStr w D u1 t.tags ∧ Sl tStr w D u2 t.bar := by
  obtain ⟨c1, c2, rfl, ⟨rfl, h1⟩, c3, c4, rfl, h3, c5, c6, rfl, h5, c7, c8, rfl, h7, c9, c10, rfl, ⟨u1, rfl, h9⟩, u2, rfl, h10⟩ := h
  obtain rfl := bool_rep h3
  obtain rfl := bool_rep h5
  obtain rfl := bool_rep h7
  exact ⟨u1, u2, rfl, h1, h9, h10⟩
theorem tst_rep {t : Tst} {u1 u2 : Value} (h1 : inI64 t.at') (h2 : Sl tStr w D u1 t.tags) (h3 : Sl tStr w D u2 t.bar) : tTst.rep w D [.int .i64 t.at', .bool t.scan, .bool t.neg, .bool t.care, u1, u2] t :=
  ⟨[_], [_, _, _, _, _], rfl, ⟨rfl, h1⟩, [_], [_, _, _, _], rfl, rfl, [_], [_, _, _], rfl, rfl, [_], [_, _], rfl, rfl, [_], [_], rfl, ⟨u1, rfl, h2⟩, u2, rfl, h3⟩
theorem rep_rul {r : Rul} (h : tRul.rep w D cs r) : ∃ u1 u2, cs = [.int .i64 r.op, u1, u2, .bool r.wild] ∧ inI64 r.op ∧ Sl tStr w D u1 r.target ∧ Sl tTst w D u2 r.tests := by
  obtain ⟨c1, c2, rfl, ⟨rfl, h1⟩, c3, c4, rfl, ⟨u1, rfl, h3⟩, c5, c6, rfl, ⟨u2, rfl, h5⟩, h6⟩ := h
  obtain rfl := bool_rep h6
  exact ⟨u1, u2, rfl, h1, h3, h5⟩
theorem rul_rep {r : Rul} {u1 u2 : Value} (h1 : inI64 r.op) (h2 : Sl tStr w D u1 r.target) (h3 : Sl tTst w D u2 r.tests) : tRul.rep w D [.int .i64 r.op, u1, u2, .bool r.wild] r :=
  ⟨[_], [_, _, _], rfl, ⟨rfl, h1⟩, [_], [_, _], rfl, ⟨u1, rfl, h2⟩, [_], [_], rfl, ⟨u2, rfl, h3⟩, rfl⟩
theorem rep_stp {s : Stp} (h : tStp.rep w D cs s) : cs = [.int .i64 s.1, .int .i64 s.2.1, .int .i64 s.2.2] ∧ inI64 s.1 ∧ inI64 s.2.1 ∧ inI64 s.2.2 := by
  obtain ⟨c1, c2, rfl, ⟨rfl, h1⟩, c3, c4, rfl, ⟨rfl, h2⟩, ⟨rfl, h3⟩⟩ := h
  exact ⟨rfl, h1, h2, h3⟩
theorem stp_rep {s : Stp} (h1 : inI64 s.1) (h2 : inI64 s.2.1) (h3 : inI64 s.2.2) : tStp.rep w D [.int .i64 s.1, .int .i64 s.2.1, .int .i64 s.2.2] s := ⟨[_], [_, _], rfl, ⟨rfl, h1⟩, [_], [_], rfl, ⟨rfl, h2⟩, ⟨rfl, h3⟩⟩
end

section
variable {w : World} {D : Nat → Prop} {A : Option Addr} {n c : Nat} {k : Nat}
/-- Element k of a list of readings, cohorts, tests, rules, steps: its cells. -/
theorem Sl.coh {xs : List Coh} (h : Sl tCoh w D (.slice A n c) xs) (hk : k < xs.length) :
    ∃ b off x u, A = some ⟨b, off, none⟩ ∧ Hid (xs[k]? = some x) ∧ x.1.size ≤ 9223372036854775807 ∧ Sl tRdg w D u x.2 ∧ w.cell? ⟨b, off + k * 2, none⟩ = some (.string x.1) ∧ w.cell? ⟨b, off + k * 2 + 1, none⟩ = some u := by
  obtain ⟨b, off, x, cs, h1, h2, _, h3, h4⟩ := h.elem hk
  obtain ⟨u, rfl, h5, h6⟩ := rep_coh h3
  exact ⟨b, off, x, u, h1, h2, by simpa [maxLen] using h5, h6, h4 0 _ rfl, h4 1 _ rfl⟩
theorem Sl.tst {xs : List Tst} (h : Sl tTst w D (.slice A n c) xs) (hk : k < xs.length) :
    ∃ b off x u1 u2, A = some ⟨b, off, none⟩ ∧ Hid (xs[k]? = some x) ∧ inI64 x.at' ∧ Sl tStr w D u1 x.tags ∧ Sl tStr w D u2 x.bar ∧ w.cell? ⟨b, off + k * 6, none⟩ = some (.int .i64 x.at') ∧ w.cell? ⟨b, off + k * 6 + 1, none⟩ = some (.bool x.scan) ∧
      w.cell? ⟨b, off + k * 6 + 2, none⟩ = some (.bool x.neg) ∧ w.cell? ⟨b, off + k * 6 + 3, none⟩ = some (.bool x.care) ∧ w.cell? ⟨b, off + k * 6 + 4, none⟩ = some u1 ∧ w.cell? ⟨b, off + k * 6 + 5, none⟩ = some u2 := by
  obtain ⟨b, off, x, cs, h1, h2, _, h3, h4⟩ := h.elem hk
  obtain ⟨u1, u2, rfl, h5, h6, h7⟩ := rep_tst h3
  exact ⟨b, off, x, u1, u2, h1, h2, h5, h6, h7, h4 0 _ rfl, h4 1 _ rfl, h4 2 _ rfl, h4 3 _ rfl, h4 4 _ rfl, h4 5 _ rfl⟩
theorem Sl.rul {xs : List Rul} (h : Sl tRul w D (.slice A n c) xs) (hk : k < xs.length) :
    ∃ b off x u1 u2, A = some ⟨b, off, none⟩ ∧ Hid (xs[k]? = some x) ∧ inI64 x.op ∧ Sl tStr w D u1 x.target ∧ Sl tTst w D u2 x.tests ∧ w.cell? ⟨b, off + k * 4, none⟩ = some (.int .i64 x.op) ∧ w.cell? ⟨b, off + k * 4 + 1, none⟩ = some u1 ∧
      w.cell? ⟨b, off + k * 4 + 2, none⟩ = some u2 ∧ w.cell? ⟨b, off + k * 4 + 3, none⟩ = some (.bool x.wild) := by
  obtain ⟨b, off, x, cs, h1, h2, _, h3, h4⟩ := h.elem hk
  obtain ⟨u1, u2, rfl, h5, h6, h7⟩ := rep_rul h3
  exact ⟨b, off, x, u1, u2, h1, h2, h5, h6, h7, h4 0 _ rfl, h4 1 _ rfl, h4 2 _ rfl, h4 3 _ rfl⟩
theorem Sl.stp {xs : List Stp} (h : Sl tStp w D (.slice A n c) xs) (hk : k < xs.length) :
    ∃ b off x, A = some ⟨b, off, none⟩ ∧ Hid (xs[k]? = some x) ∧ inI64 x.1 ∧ inI64 x.2.1 ∧ inI64 x.2.2 ∧ w.cell? ⟨b, off + k * 3, none⟩ = some (.int .i64 x.1) ∧ w.cell? ⟨b, off + k * 3 + 1, none⟩ = some (.int .i64 x.2.1) ∧ w.cell? ⟨b, off + k * 3 + 2, none⟩ = some (.int .i64 x.2.2) := by
  obtain ⟨b, off, x, cs, h1, h2, _, h3, h4⟩ := h.elem hk
  obtain ⟨rfl, h5, h6, h7⟩ := rep_stp h3
  exact ⟨b, off, x, h1, h2, h5, h6, h7, h4 0 _ rfl, h4 1 _ rfl, h4 2 _ rfl⟩
end
end Go.Proofs.YthecmbmidoagaaaDoor

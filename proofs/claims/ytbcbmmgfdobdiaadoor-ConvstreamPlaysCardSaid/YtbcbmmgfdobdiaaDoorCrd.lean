/- An argument of type api.Encoding that came in. -/
import Derived.Test.YtbcbmmgfdobdiaaDoorK9
import Derived.Test.YtbcbmmgfdobdiaaDoorRow
import Derived.Lib.SmallJoins
import Derived.OpenShut
import Derived.ChangeOld
namespace Go.Proofs.YtbcbmmgfdobdiaaDoor
open Go.ChangeShapes Go.WideShapes Go.ChangeAt Go.RowKit

set_option maxRecDepth 100000 in
theorem open_row {H : Type} {enc : TypeId × Value → H} {W : World} {base n : Nat} {held : Bool} {v : Value} {y : DataW H × List MemPlace} (hf : DataW.trod enc Tryd.prog W base (fun _ => true) held n 22 [v] = some y) :
    ∃ (a : Option Addr) (len cap : Nat) (codes : List Int), v = .slice a len cap ∧ Reads W W.heap.size 1 a len (codes.map iv) ∧ len ≤ cap ∧ cap ≤ maxLen := by
  rcases open_ints Tryd.underlying22 Tryd.underlying3 (by kernel_rfl) hf with ⟨hcs, _⟩ | ⟨x, l, c, zs, hcs, _, hl, hm, hz, _, hcell, hwz⟩
  · simp at hcs
    obtain ⟨codes, h⟩ := reads_of_row (w := W) (a := none) (len := 0) (cap := 0) (zs := []) (.inl ⟨rfl, rfl, rfl, rfl⟩)
    exact ⟨_, _, _, codes, hcs, h⟩
  · simp at hcs
    obtain ⟨codes, h⟩ := reads_of_row (w := W) (a := some x) (len := l) (cap := c) (zs := zs) (.inr ⟨x, rfl, hl, hm, by simpa using hz, hcell, hwz⟩)
    exact ⟨_, _, _, codes, hcs, h⟩
set_option maxRecDepth 100000 in
theorem open_enc {H : Type} {enc : TypeId × Value → H} {W : World} {base b0 : Nat} {r : Reach} {held : Bool} {v : Value} {d : DataW H} {p : List MemPlace} (hv : Value.okWide Tryd.prog W r b0 26 v) (h : DataW.Trod enc Tryd.prog W base (fun _ => true) held 26 v d p) :
    ∃ (k : Int) (a : Option Addr) (len cap : Nat) (codes : List Int), v = .agg #[.int .i64 k, .slice a len cap] ∧ (Lit.int .i64 k).wf = true ∧ Reads W W.heap.size 1 a len (codes.map iv) ∧ len ≤ cap ∧ cap ≤ maxLen := by
  obtain ⟨u0, u1, y0, y1, n, rfl, _, _, g0, g1⟩ := Go.Joins.open_agg2 Tryd.underlying26 (by kernel_rfl) (by kernel_rfl) hv h
  obtain ⟨k, hk, _, wk⟩ := DataW.trod_int Tryd.underlying3 g0
  simp at hk
  subst hk
  obtain ⟨z, m, _, _, g2⟩ := trod_struct1 Tryd.underlying24 g1
  have hc : Tryd.prog.cellsOf 22 = 1 := by kernel_rfl
  simp only [List.drop_zero, hc, List.take_succ_cons, List.take_zero] at g2
  obtain ⟨a, len, cap, codes, rfl, hr⟩ := open_row g2
  exact ⟨k, a, len, cap, codes, rfl, wk, hr⟩
end Go.Proofs.YtbcbmmgfdobdiaaDoor

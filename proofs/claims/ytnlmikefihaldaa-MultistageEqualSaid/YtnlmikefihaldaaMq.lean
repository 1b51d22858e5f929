/- An argument of two lists that came in. -/
import Derived.Test.YtnlmikefihaldaaMo
namespace Go.Proofs.Ytnlmikefihaldaa
open Go.ChangeShapes Go.WideShapes Go.ChangeAt Go.RowKit

set_option maxRecDepth 100000 in
theorem open_two {H : Type} {enc : TypeId × Value → H} {W : World} {base b0 : Nat} {r : Reach} {held : Bool} {v : Value} {d : DataW H} {p : List MemPlace} (hv : Value.okWide Try.prog W r b0 42 v) (h : DataW.Trod enc Try.prog W base (fun _ => true) held 42 v d p) :
    ∃ (a : Option Addr) (n c : Nat) (l : List Int) (a' : Option Addr) (n' c' : Nat) (l' : List Int), v = .agg #[.slice a n c, .slice a' n' c'] ∧ Reads W W.heap.size 1 a n (l.map iv) ∧ n ≤ c ∧ (∀ x ∈ l, W64 x) ∧ Reads W W.heap.size 1 a' n' (l'.map iv) ∧ n' ≤ c' ∧ ∀ x ∈ l', W64 x := by
  simp only [Value.okWide, Try.underlying42] at hv
  obtain ⟨cs, rfl, hs, _⟩ := hv
  have hc2 : Try.prog.cellsOf 42 = 2 := by kernel_rfl
  have hc1 : Try.prog.cellsOf 23 = 1 := by kernel_rfl
  obtain ⟨c0, c1, rfl⟩ := Go.Joins.array2 (hs.trans hc2)
  obtain ⟨fuel, hf⟩ := h
  obtain ⟨xs, m, _, _, _, hxl, hx⟩ := DataW.trod_array Try.underlying42 hf
  have h0 := hx 0 (by omega)
  have h1 := hx 1 (by omega)
  simp only [hc1, Value.cells, Nat.zero_mul, Nat.one_mul, List.drop_zero, List.take_succ_cons, List.take_zero, List.drop_succ_cons] at h0 h1
  rw [List.getElem?_eq_getElem (by omega)] at h0 h1
  obtain ⟨a, n, c, l, rfl, q1, q2, _, q3⟩ := open_row h0
  obtain ⟨a', n', c', l', rfl, r1, r2, _, r3⟩ := open_row h1
  exact ⟨a, n, c, l, a', n', c', l', rfl, q1, q2, q3, r1, r2, r3⟩
end Go.Proofs.Ytnlmikefihaldaa

/- Arguments of type Job, Case, []string that came in. -/
import Derived.Test.YtbcbmmgfdobdiaaDoorCrd
import Derived.Deep.Strs
namespace Go.Proofs.YtbcbmmgfdobdiaaDoor
open Go.ChangeShapes Go.WideShapes Go.ChangeAt Go.RowKit

def sv (s : List UInt8) : Value := .string ⟨s.toArray⟩
theorem array5 {α : Type} {cs : Array α} (h : cs.size = 5) : ∃ c0 c1 c2 c3 c4, cs = #[c0, c1, c2, c3, c4] := by
  obtain ⟨l⟩ := cs
  match l, h with
  | [c0, c1, c2, c3, c4], _ => exact ⟨c0, c1, c2, c3, c4, rfl⟩
theorem array6 {α : Type} {cs : Array α} (h : cs.size = 6) : ∃ c0 c1 c2 c3 c4 c5, cs = #[c0, c1, c2, c3, c4, c5] := by
  obtain ⟨l⟩ := cs
  match l, h with
  | [c0, c1, c2, c3, c4, c5], _ => exact ⟨c0, c1, c2, c3, c4, c5, rfl⟩
theorem cells_enc : Tryd.prog.cellsOf 26 = 2 := by kernel_rfl
theorem cells_ints : Tryd.prog.cellsOf 22 = 1 := by kernel_rfl
theorem cells_chs : Tryd.prog.cellsOf 24 = 1 := by kernel_rfl
theorem cells_int : Tryd.prog.cellsOf 3 = 1 := by kernel_rfl
theorem cells_str : Tryd.prog.cellsOf 9 = 1 := by kernel_rfl
set_option maxRecDepth 100000 in
theorem trod_enc {H : Type} {enc : TypeId × Value → H} {W : World} {base n : Nat} {held : Bool} {u0 u1 : Value} {y : DataW H × List MemPlace} (hf : DataW.trod enc Tryd.prog W base (fun _ => true) held n 26 [u0, u1] = some y) :
    ∃ (k : Int) (a : Option Addr) (len cap : Nat) (codes : List Int), u0 = .int .i64 k ∧ u1 = .slice a len cap ∧ Reads W W.heap.size 1 a len (codes.map iv) := by
  obtain ⟨y0, y1, n, _, _, g0, g1⟩ := trod_struct2 Tryd.underlying26 hf
  simp only [cells_int, cells_chs, List.drop_zero, List.take_succ_cons, List.take_zero, List.drop_succ_cons] at g0 g1
  obtain ⟨k, hk, _, wk⟩ := DataW.trod_int Tryd.underlying3 g0
  simp at hk
  subst hk
  obtain ⟨z, m, _, _, g2⟩ := trod_struct1 Tryd.underlying24 g1
  simp only [List.drop_zero, cells_ints, List.take_succ_cons, List.take_zero] at g2
  obtain ⟨a, len, cap, codes, rfl, hr, _, _⟩ := open_row g2
  exact ⟨k, a, len, cap, codes, rfl, rfl, hr⟩
set_option maxRecDepth 100000 in
theorem open_job {H : Type} {enc : TypeId × Value → H} {W : World} {base b0 : Nat} {r : Reach} {held : Bool} {v : Value} {d : DataW H} {p : List MemPlace} (hv : Value.okWide Tryd.prog W r b0 54 v) (h : DataW.Trod enc Tryd.prog W base (fun _ => true) held 54 v d p) :
    ∃ (k1 : Int) (a1 : Option Addr) (n1 c1 : Nat) (q1 : List Int) (k2 : Int) (a2 : Option Addr) (n2 c2 : Nat) (q2 : List Int) (s : List UInt8) (z : Int), v = .agg #[.int .i64 k1, .slice a1 n1 c1, .int .i64 k2, .slice a2 n2 c2, .string ⟨s.toArray⟩, .int .i64 z] ∧
      Reads W W.heap.size 1 a1 n1 (q1.map iv) ∧ Reads W W.heap.size 1 a2 n2 (q2.map iv) := by
  obtain ⟨cs, rfl, hsz⟩ := okWide_struct Tryd.underlying54 hv
  obtain ⟨c0, c1, c2, c3, c4, c5, rfl⟩ := array6 (hsz.trans (by kernel_rfl))
  obtain ⟨fuel, hf⟩ := h
  obtain ⟨y0, y1, y2, y3, n, hx, _, h0, h1, h2, h3⟩ := Go.Joins.trod_struct4 Tryd.underlying54 hf
  simp only [Value.cells, cells_enc, cells_int, cells_str, List.drop_zero, List.take_succ_cons, List.take_zero, List.drop_succ_cons] at h0 h1 h2 h3
  obtain ⟨k1, a1, n1, d1, q1, rfl, rfl, r1⟩ := trod_enc h0
  obtain ⟨k2, a2, n2, d2, q2, rfl, rfl, r2⟩ := trod_enc h1
  obtain ⟨s, e1, _, _⟩ := DataW.trod_string Tryd.underlying9 h2
  obtain ⟨z, e2, _, _⟩ := DataW.trod_int Tryd.underlying3 h3
  simp at e1 e2
  subst e1 e2
  obtain ⟨⟨l⟩⟩ := s
  exact ⟨k1, a1, n1, d1, q1, k2, a2, n2, d2, q2, l, z, rfl, r1, r2⟩
set_option maxRecDepth 100000 in
theorem open_case {H : Type} {enc : TypeId × Value → H} {W : World} {base b0 : Nat} {r : Reach} {held : Bool} {v : Value} {d : DataW H} {p : List MemPlace} (hv : Value.okWide Tryd.prog W r b0 28 v) (h : DataW.Trod enc Tryd.prog W base (fun _ => true) held 28 v d p) :
    ∃ (k1 : Int) (a1 : Option Addr) (n1 c1 : Nat) (q1 : List Int) (k2 : Int) (a2 : Option Addr) (n2 c2 : Nat) (q2 : List Int) (z : Int), v = .agg #[.int .i64 k1, .slice a1 n1 c1, .int .i64 k2, .slice a2 n2 c2, .int .i64 z] ∧
      Reads W W.heap.size 1 a1 n1 (q1.map iv) ∧ Reads W W.heap.size 1 a2 n2 (q2.map iv) := by
  obtain ⟨cs, rfl, hsz⟩ := okWide_struct Tryd.underlying28 hv
  obtain ⟨c0, c1, c2, c3, c4, rfl⟩ := array5 (hsz.trans (by kernel_rfl))
  obtain ⟨fuel, hf⟩ := h
  obtain ⟨y0, y1, y2, n, hx, _, h0, h1, h2⟩ := Go.Deep.trod_struct3 Tryd.underlying28 hf
  simp only [Value.cells, cells_enc, cells_int, List.drop_zero, List.take_succ_cons, List.take_zero, List.drop_succ_cons] at h0 h1 h2
  obtain ⟨k1, a1, n1, d1, q1, rfl, rfl, r1⟩ := trod_enc h0
  obtain ⟨k2, a2, n2, d2, q2, rfl, rfl, r2⟩ := trod_enc h1
  obtain ⟨z, e2, _, _⟩ := DataW.trod_int Tryd.underlying3 h2
  simp at e2
  subst e2
  exact ⟨k1, a1, n1, d1, q1, k2, a2, n2, d2, q2, z, rfl, r1, r2⟩
set_option maxRecDepth 100000 in
theorem open_strl {H : Type} {enc : TypeId × Value → H} {W : World} {base b0 : Nat} {r : Reach} {held : Bool} {v : Value} {d : DataW H} {p : List MemPlace} (hv : Value.okWide Tryd.prog W r b0 29 v) (h : DataW.Trod enc Tryd.prog W base (fun _ => true) held 29 v d p) :
    ∃ (a : Option Addr) (n c : Nat) (l : List (List UInt8)), v = .slice a n c ∧ Reads W W.heap.size 1 a n (l.map sv) ∧ n ≤ maxLen := by
  obtain ⟨a, len, cap, rfl⟩ := okWide_slice Tryd.underlying29 hv
  obtain ⟨fuel, hf⟩ := h
  rcases Go.Deep.open_strs Tryd.underlying29 Tryd.underlying9 cells_str hf with ⟨hcs, _⟩ | ⟨x, len', cap', m, Sx, hcs, _, hl, hm, hmm, _, hcell⟩
  · simp [Value.cells] at hcs
    obtain ⟨rfl, rfl, rfl⟩ := hcs
    exact ⟨none, 0, 0, [], rfl, Reads.none_, by decide⟩
  · simp [Value.cells] at hcs
    obtain ⟨rfl, rfl, rfl⟩ := hcs
    simp at hmm
    subst hmm
    refine ⟨some x, len, m, (List.range len).map fun i => (Sx i).data.toList, rfl, ⟨by simp, fun h0 => ⟨x, rfl, ?_, fun j u hj => ?_⟩⟩, by omega⟩
    · have := lt_of_cell (hcell 0 (by omega)).1; rwa [block_of_add] at this
    · simp only [List.map_map, List.getElem?_map] at hj
      rcases Nat.lt_or_ge j len with hjl | hjl
      · rw [List.getElem?_range hjl] at hj
        simp at hj
        subst hj
        rw [(hcell j (by omega)).1]
        rfl
      · rw [List.getElem?_eq_none (by simpa using hjl)] at hj; simp at hj
end Go.Proofs.YtbcbmmgfdobdiaaDoor

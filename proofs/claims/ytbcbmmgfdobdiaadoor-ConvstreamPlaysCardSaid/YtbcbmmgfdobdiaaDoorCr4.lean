/- A list of calls (Op) that came in, with the form's own reach: no string is longer than a machine bears. -/
import Derived.Test.YtbcbmmgfdobdiaaDoorCr3
import Derived.Test.YtbcbmmgfdobdiaaDoorRL
import Derived.Deep.SlicePairs
namespace Go.Proofs.YtbcbmmgfdobdiaaDoor
open Go.ChangeShapes Go.WideShapes Go.ChangeAt Go.RowKit

theorem cells_op : Tryd.prog.cellsOf 67 = 2 := by kernel_rfl
theorem cells_bool : Tryd.prog.cellsOf 4 = 1 := by kernel_rfl
set_option maxRecDepth 100000 in
theorem open_opl {H : Type} {enc : TypeId × Value → H} {W : World} {base b0 : Nat} {r : Reach} {held : Bool} {v : Value} {d : DataW H} {p : List MemPlace} (hv : Value.okWide Tryd.prog W r b0 65 v) (h : DataW.Trod enc Tryd.prog W base (fun _ => true) held 65 v d p) (hz : ∀ n ∈ d.weights Tryd.prog 65, n ≤ reachBytes) :
    ∃ (a : Option Addr) (n c : Nat) (l : List (Bool × List UInt8)), v = .slice a n c ∧ Reads W W.heap.size 2 a n (l.flatMap ov) ∧ ∀ o ∈ l, o.2.length ≤ 140737488355328 := by
  obtain ⟨a, len, cap, rfl⟩ := okWide_slice Tryd.underlying65 hv
  obtain ⟨fuel, hf⟩ := h
  rcases Go.Deep.open_slice_pairs Tryd.underlying65 Tryd.underlying67 cells_op rfl rfl cells_bool cells_str hf with ⟨hcs, _⟩ | ⟨x, len', cap', m, n, V0, V1, D0, D1, P0, P1, hcs, _, hl, hm, hmm, hx, hcell⟩
  · simp [Value.cells] at hcs
    obtain ⟨rfl, rfl, rfl⟩ := hcs
    exact ⟨none, 0, 0, [], rfl, Reads.none_, by simp⟩
  · simp [Value.cells] at hcs
    obtain ⟨rfl, rfl, rfl⟩ := hcs
    simp at hmm
    subst hmm
    simp only [Prod.mk.injEq] at hx
    obtain ⟨hxd, _⟩ := hx
    subst hxd
    have each : ∀ i, i < len → ∃ o : Bool × List UInt8, W.cell? (x.add (i * 2)) = some (.bool o.1) ∧ W.cell? (x.add (i * 2 + 1)) = some (.string ⟨o.2.toArray⟩) ∧ D1 i = .lit (.string o.2) := fun i hi => by
      obtain ⟨h1, h2, h3, h4⟩ := hcell i (by omega)
      obtain ⟨b, e1, _⟩ := DataW.trod_bool Tryd.underlying4 h3
      obtain ⟨s, e2, e3, _⟩ := DataW.trod_string Tryd.underlying9 h4
      simp only [Prod.mk.injEq] at e3
      simp at e1 e2
      obtain ⟨⟨l⟩⟩ := s
      exact ⟨(b, l), by rw [h1, e1], by rw [h2, e2], by rw [e3.1]⟩
    obtain ⟨q, hq⟩ := Go.Deep.choose_lt each
    refine ⟨some x, len, m, (List.range len).map q, rfl, ⟨by rw [ov_len]; simp, fun h0 => ⟨x, rfl, ?_, fun j u hj => ?_⟩⟩, fun o ho => ?_⟩
    · have := lt_of_cell (hq 0 h0).1; rwa [block_of_add] at this
    · have hjl : j < len * 2 := by have := (List.getElem?_eq_some_iff.1 hj).1; rw [ov_len] at this; simpa using this
      have hi : j / 2 < len := by omega
      have hx : ((List.range len).map q)[j / 2]? = some (q (j / 2)) := by rw [List.getElem?_map, List.getElem?_range hi]; rfl
      obtain ⟨o1, o2⟩ := ov_at hx
      obtain ⟨c1, c2, _⟩ := hq (j / 2) hi
      rcases Nat.mod_two_eq_zero_or_one j with h2 | h2
      · rw [show j / 2 * 2 = j by omega] at o1 c1
        rw [o1] at hj; injection hj with hj; rw [c1, hj]
      · rw [show j / 2 * 2 + 1 = j by omega] at o2 c2
        rw [o2] at hj; injection hj with hj; rw [c2, hj]
    · obtain ⟨i, hi, rfl⟩ := List.mem_map.1 ho
      have hil := List.mem_range.1 hi
      obtain ⟨_, _, c3⟩ := hq i hil
      have h1 : (q i).2.length ∈ (DataW.agg [D0 i, D1 i]).weights Tryd.prog 67 := by
        rw [DataW.weights, Tryd.underlying67, c3]
        simp [DataW.weightsEach, DataW.weights]
      have h2 := weights_all (P := Tryd.prog) (e := 67) (List.mem_map.2 ⟨i, hi, rfl⟩ : DataW.agg [D0 i, D1 i] ∈ (List.range len).map fun i => DataW.agg [D0 i, D1 i]) _ h1
      have h3 := hz _ (by rw [DataW.weights, Tryd.underlying65]; exact List.mem_cons_of_mem _ (List.mem_append_left _ h2))
      have := reachBytes_lt
      omega
end Go.Proofs.YtbcbmmgfdobdiaaDoor

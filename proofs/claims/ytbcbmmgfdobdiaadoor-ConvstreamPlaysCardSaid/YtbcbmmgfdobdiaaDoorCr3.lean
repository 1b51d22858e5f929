/- A []string that came in, with the form's own reach: no string is longer than a machine bears. -/
import Derived.Test.YtbcbmmgfdobdiaaDoorCr2
import Derived.SizedLaws
namespace Go.Proofs.YtbcbmmgfdobdiaaDoor
open Go.ChangeShapes Go.WideShapes Go.ChangeAt Go.RowKit

theorem weights_all {H : Type} {P : Program} {e : TypeId} : ∀ {ds : List (DataW H)} {d : DataW H}, d ∈ ds → ∀ n ∈ d.weights P e, n ∈ DataW.weightsAll P e ds := by
  intro ds
  induction ds with
  | nil => intro d h; cases h
  | cons x ds ih =>
    intro d h n hn
    rw [DataW.weightsAll, List.mem_append]
    rcases List.mem_cons.1 h with rfl | h
    · exact Or.inl hn
    · exact Or.inr (ih h n hn)
set_option maxRecDepth 100000 in
theorem open_strl2 {H : Type} {enc : TypeId × Value → H} {W : World} {base b0 : Nat} {r : Reach} {held : Bool} {v : Value} {d : DataW H} {p : List MemPlace} (hv : Value.okWide Tryd.prog W r b0 29 v) (h : DataW.Trod enc Tryd.prog W base (fun _ => true) held 29 v d p) (hz : ∀ n ∈ d.weights Tryd.prog 29, n ≤ reachBytes) :
    ∃ (a : Option Addr) (n c : Nat) (l : List (List UInt8)), v = .slice a n c ∧ Reads W W.heap.size 1 a n (l.map sv) ∧ ∀ s ∈ l, s.length ≤ 140737488355328 := by
  obtain ⟨a, len, cap, rfl⟩ := okWide_slice Tryd.underlying29 hv
  obtain ⟨fuel, hf⟩ := h
  rcases Go.Deep.open_strs Tryd.underlying29 Tryd.underlying9 cells_str hf with ⟨hcs, _⟩ | ⟨x, len', cap', m, Sx, hcs, _, hl, hm, hmm, hx, hcell⟩
  · simp [Value.cells] at hcs
    obtain ⟨rfl, rfl, rfl⟩ := hcs
    exact ⟨none, 0, 0, [], rfl, Reads.none_, by simp⟩
  · simp [Value.cells] at hcs
    obtain ⟨rfl, rfl, rfl⟩ := hcs
    simp at hmm
    subst hmm
    simp only [Prod.mk.injEq] at hx
    obtain ⟨hxd, _⟩ := hx
    subst hxd
    refine ⟨some x, len, m, (List.range len).map fun i => (Sx i).data.toList, rfl, ⟨by simp, fun h0 => ⟨x, rfl, ?_, fun j u hj => ?_⟩⟩, fun s hs => ?_⟩
    · have := lt_of_cell (hcell 0 (by omega)).1; rwa [block_of_add] at this
    · simp only [List.map_map, List.getElem?_map] at hj
      rcases Nat.lt_or_ge j len with hjl | hjl
      · rw [List.getElem?_range hjl] at hj
        simp at hj
        subst hj
        rw [(hcell j (by omega)).1]
        rfl
      · rw [List.getElem?_eq_none (by simpa using hjl)] at hj; simp at hj
    · obtain ⟨i, hi, rfl⟩ := List.mem_map.1 hs
      have h1 : (Sx i).data.toList.length ∈ (DataW.lit (H := H) (.string (Sx i).data.toList)).weights Tryd.prog 9 := by simp [DataW.weights]
      have h2 := weights_all (P := Tryd.prog) (e := 9) (List.mem_map.2 ⟨i, hi, rfl⟩ : DataW.lit (H := H) (.string (Sx i).data.toList) ∈ (List.range len).map fun i => DataW.lit (H := H) (.string (Sx i).data.toList)) _ h1
      have h3 := hz _ (by rw [DataW.weights, Tryd.underlying29]; exact List.mem_cons_of_mem _ (List.mem_append_left _ h2))
      have := reachBytes_lt
      omega
end Go.Proofs.YtbcbmmgfdobdiaaDoor

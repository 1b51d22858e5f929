/- What the row's list gives (the table of digits), and how a slice of ints that came in reads. -/
import Derived.Test.YtbcbmmgfdobdiaaDoorHex
import Derived.Test.YtbcbmmgfdobdiaaDoorTxt
import Derived.Test.YtbcbmmgfdobdiaaDoorRows
import Derived.Deep.DeepHandedRow
import Derived.Lib.LaidTab
namespace Go.Proofs.YtbcbmmgfdobdiaaDoor
open Go.ChangeShapes Go.WideShapes Go.ChangeAt Go.RowKit

theorem gTab : Tryd.prog.globalNamed "unicodetext/codepoint.digits" = some 0 := by kernel_rfl
theorem gTabType : (Tryd.prog.globals[0]?).map (·.type) = some 142 := by kernel_rfl
theorem cellsTab : Tryd.prog.cellsOf 142 = 16 := by kernel_rfl
theorem cellsDigit : Tryd.prog.cellsOf 5 = 1 := by kernel_rfl
theorem digitTable {W : World} (h : laidMetH Tryd.prog [("unicodetext/codepoint.digits", Rows.laid_unicodetext_codepoint_digits)] W) :
    Lib.TabIs Tryd.prog W "unicodetext/codepoint.digits" .u8 [48, 49, 50, 51, 52, 53, 54, 55, 56, 57, 65, 66, 67, 68, 69, 70] :=
  Lib.tabIs_of_head (rest := []) gTab gTabType Tryd.underlying142 Tryd.underlying5 cellsDigit cellsTab h
theorem dig_of_laid {W : World} (h : laidMetH Tryd.prog [("unicodetext/codepoint.digits", Rows.laid_unicodetext_codepoint_digits)] W) : Dig W := by
  intro j hj
  rw [(digitTable h).cell gTab j (by simpa using hj)]
  have : j = 0 ∨ j = 1 ∨ j = 2 ∨ j = 3 ∨ j = 4 ∨ j = 5 ∨ j = 6 ∨ j = 7 ∨ j = 8 ∨ j = 9 ∨ j = 10 ∨ j = 11 ∨ j = 12 ∨ j = 13 ∨ j = 14 ∨ j = 15 := by omega
  rcases this with rfl | rfl | rfl | rfl | rfl | rfl | rfl | rfl | rfl | rfl | rfl | rfl | rfl | rfl | rfl | rfl <;> rfl

theorem lt_of_cell {w : World} {a : Addr} {v : Value} (h : w.cell? a = some v) : a.block < w.heap.size := by
  rcases Nat.lt_or_ge a.block w.heap.size with hlt | hge
  · exact hlt
  · unfold World.cell? at h
    rw [Array.getElem?_eq_none hge] at h
    simp at h
theorem getElem_iv {l : List Int} {j : Nat} {u : Value} (h : (l.map iv)[j]? = some u) : ∃ x, l[j]? = some x ∧ u = .int .i64 x := by
  rw [List.getElem?_map] at h
  cases hx : l[j]? with
  | none => simp [hx] at h
  | some x => simp [hx] at h; exact ⟨x, rfl, h.symm⟩
theorem reads_of_row {w : World} {a : Option Addr} {len cap : Nat} {zs : List Int} (h : (a = none ∧ len = 0 ∧ cap = 0 ∧ zs = []) ∨
    ∃ x, a = some x ∧ len ≤ cap ∧ cap ≤ maxLen ∧ zs.length = cap ∧ (∀ i, i < zs.length → w.cell? (x.add i) = some (.int .i64 (zs.getD i 0))) ∧ ∀ n ∈ zs, (Lit.int .i64 n).wf = true) :
    ∃ l : List Int, Reads w w.heap.size 1 a len (l.map iv) ∧ len ≤ cap ∧ cap ≤ maxLen := by
  rcases h with ⟨rfl, rfl, rfl, rfl⟩ | ⟨x, rfl, h1, h2, h3, h4, h5⟩
  · exact ⟨[], Reads.none_, Nat.le_refl _, by decide⟩
  · refine ⟨zs.take len, ⟨by simp; omega, fun h0 => ⟨x, rfl, ?_, fun j u hj => ?_⟩⟩, h1, h2⟩
    · have := lt_of_cell (h4 0 (by omega)); rwa [block_of_add] at this
    · obtain ⟨y, hy, rfl⟩ := getElem_iv hj
      obtain ⟨a1, a2⟩ := List.getElem?_eq_some_iff.1 hy
      rw [List.length_take] at a1
      rw [h4 j (by omega)]
      rw [List.getElem_take] at a2
      simp [List.getD, List.getElem?_eq_getElem (show j < zs.length by omega), a2]

/-- A world for the witness: the settled one, the table of digits holding what its text lays. -/
noncomputable def laidWorld (os : Os) : World :=
  { World.holding Tryd.prog os ⟨#[], #[], []⟩ with heap := (World.holding Tryd.prog os ⟨#[], #[], []⟩).heap.modify 0 fun
      | .cells _ t frozen => .cells #[.int .u8 48, .int .u8 49, .int .u8 50, .int .u8 51, .int .u8 52, .int .u8 53, .int .u8 54, .int .u8 55, .int .u8 56, .int .u8 57, .int .u8 65, .int .u8 66, .int .u8 67, .int .u8 68, .int .u8 69, .int .u8 70] t frozen
      | o => o }
end Go.Proofs.YtbcbmmgfdobdiaaDoor

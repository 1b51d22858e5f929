/- Arguments that came in: lists of numbers, rows, tables, spans, two lists. -/
import Derived.Test.YtnlmikefihaldaaMf
import Derived.Lib.SmallJoins
import Derived.Deep.Matrix
import Derived.Deep.SlicePairs
import Derived.SizedLaws
import Derived.ProofKit
import Derived.OpenShut
import Derived.ChangeOld
namespace Go.Proofs.Ytnlmikefihaldaa
open Go.ChangeShapes Go.WideShapes Go.ChangeAt Go.RowKit

theorem W64_of {k : Int} (h : (Lit.int .i64 k).wf = true) : W64 k := by
  simp [Lit.wf, IntKind.min, IntKind.max, IntKind.signed, IntKind.bits] at h
  unfold W64; omega
theorem lt_of_cell {W : World} {p : Addr} {v : Value} (h : W.cell? p = some v) : p.block < W.heap.size := World.block_lt_of_cell? W p h
set_option maxRecDepth 100000 in
theorem open_row {H : Type} {enc : TypeId × Value → H} {W : World} {base n : Nat} {held : Bool} {v : Value} {y : DataW H × List MemPlace} (hf : DataW.trod enc Try.prog W base (fun _ => true) held n 23 [v] = some y) :
    ∃ (a : Option Addr) (len cap : Nat) (codes : List Int), v = .slice a len cap ∧ Reads W W.heap.size 1 a len (codes.map iv) ∧ len ≤ cap ∧ cap ≤ maxLen ∧ ∀ x ∈ codes, W64 x := by
  rcases open_ints Try.underlying23 Try.underlying3 (by kernel_rfl) hf with ⟨hcs, _⟩ | ⟨x, l, c, zs, hcs, _, hl, hm, hz, _, hcell, hwz⟩
  · simp at hcs
    exact ⟨_, _, _, [], hcs, Reads.none_, Nat.le_refl _, Nat.zero_le _, by simp⟩
  · simp at hcs
    simp only [if_true] at hz
    refine ⟨_, _, _, zs.take l, hcs, ⟨by rw [List.length_map, List.length_take]; omega, fun h0 => ⟨x, rfl, ?_, fun j u hj => ?_⟩⟩, hl, hm, fun y hy => W64_of (hwz y (List.mem_of_mem_take hy))⟩
    · have := lt_of_cell (hcell 0 (by omega)); rwa [block_of_add] at this
    · rw [List.getElem?_map] at hj
      obtain ⟨z, hz2, rfl⟩ := Option.map_eq_some_iff.1 hj
      have hjl : j < l := by have := (List.getElem?_eq_some_iff.1 hz2).1; rw [List.length_take] at this; omega
      rw [List.getElem?_take, if_pos hjl] at hz2
      rw [hcell j (by omega), List.getD_eq_getElem?_getD, hz2]
      rfl
theorem open_intl {H : Type} {enc : TypeId × Value → H} {W : World} {base b0 : Nat} {r : Reach} {held : Bool} {v : Value} {d : DataW H} {p : List MemPlace} (hv : Value.okWide Try.prog W r b0 23 v) (h : DataW.Trod enc Try.prog W base (fun _ => true) held 23 v d p) :
    ∃ (a : Option Addr) (len cap : Nat) (codes : List Int), v = .slice a len cap ∧ Reads W W.heap.size 1 a len (codes.map iv) ∧ len ≤ cap ∧ ∀ x ∈ codes, W64 x := by
  obtain ⟨a, len, cap, rfl⟩ := okWide_slice Try.underlying23 hv
  obtain ⟨fuel, hf⟩ := h
  obtain ⟨a', l', c', codes, h1, h2, h3, _, h5⟩ := open_row (v := .slice a len cap) hf
  exact ⟨a', l', c', codes, h1, h2, h3, h5⟩
/-- each row's numbers -/
def W64r (ss : List (List Int)) : Prop := ∀ l ∈ ss, ∀ x ∈ l, W64 x
theorem W64r.at_ {ss : List (List Int)} (h : W64r ss) : ∀ i, ∀ x ∈ stg ss i, W64 x := fun i x hx => by
  rcases Nat.lt_or_ge i ss.length with q | q
  · have e : stg ss i = ss[i] := by simp [stg, List.getD, List.getElem?_eq_getElem q]
    rw [e] at hx
    exact h _ (List.getElem_mem q) x hx
  · simp [stg, List.getD, List.getElem?_eq_none q] at hx
theorem open_rows {H : Type} {enc : TypeId × Value → H} {W : World} {base n : Nat} {held : Bool} {v : Value} {y : DataW H × List MemPlace} (hf : DataW.trod enc Try.prog W base (fun _ => true) held n 26 [v] = some y) :
    ∃ a len cap ss, v = .slice a len cap ∧ W64r ss ∧ ∃ vs, Reads W W.heap.size 1 a len vs ∧ Rows W W.heap.size vs ss := by
  rcases Go.Deep.open_int_rows Try.underlying26 Try.underlying23 Try.underlying3 (by kernel_rfl) (by kernel_rfl) hf with ⟨hcs, _⟩ | ⟨a, len, cap, A, L, C, Z, hcs, _, hl, hm, _, hx⟩
  · simp at hcs
    subst hcs
    exact ⟨none, 0, 0, [], rfl, by simp [W64r], [], Reads.none_, rfl, fun i xs h => by simp at h⟩
  · simp at hcs
    subst hcs
    have hlen : ∀ r, r < len → ((Z r).take (L r)).length = L r := fun r hr => by obtain ⟨_, h1, _, h3, _⟩ := hx r (by omega); rw [List.length_take]; omega
    refine ⟨some a, len, cap, (List.range len).map fun r => (Z r).take (L r), rfl, ?_, (List.range len).map fun r => .slice (A r) (L r) (C r), ⟨by simp, fun h0 => ⟨a, rfl, ?_, ?_⟩⟩, by simp, ?_⟩
    · intro l hl'
      simp at hl'
      obtain ⟨r, hr, rfl⟩ := hl'
      obtain ⟨_, h1, h2, h3, h4, _⟩ := hx r (by omega)
      exact fun x hx' => W64_of (h4 x (List.mem_of_mem_take hx'))
    · have := lt_of_cell (hx 0 (by omega)).1
      rwa [block_of_add] at this
    · intro j u hj
      have hj2 : j < len := by have := (List.getElem?_eq_some_iff.1 hj).1; simpa using this
      simp only [List.getElem?_map, List.getElem?_range hj2, Option.map_some, Option.some.injEq] at hj
      subst hj
      exact (hx j (by omega)).1
    · intro i xs hi
      have hi2 : i < len := by have := (List.getElem?_eq_some_iff.1 hi).1; simpa using this
      simp only [List.getElem?_map, List.getElem?_range hi2, Option.map_some, Option.some.injEq] at hi
      subst hi
      obtain ⟨_, h1, h2, h3, h4, h5, h6⟩ := hx i (by omega)
      refine ⟨A i, C i, by simp [List.getElem?_range hi2, hlen i hi2], by rw [hlen i hi2]; exact h1, ⟨by simp, fun h0 => ?_⟩⟩
      rw [hlen i hi2] at h0
      cases hA : A i with
      | none => have := h5 hA; omega
      | some a' =>
        obtain ⟨_, h7⟩ := h6 a' hA
        refine ⟨a', rfl, ?_, fun j u hj => ?_⟩
        · have := lt_of_cell (h7 0 (by omega))
          rwa [block_of_add] at this
        · rw [List.getElem?_map] at hj
          obtain ⟨z, hz, rfl⟩ := Option.map_eq_some_iff.1 hj
          have hjl : j < L i := by have := (List.getElem?_eq_some_iff.1 hz).1; rw [List.length_take] at this; omega
          rw [List.getElem?_take, if_pos hjl] at hz
          rw [h7 j (by omega), List.getD_eq_getElem?_getD, hz]
          rfl
theorem open_choices {H : Type} {enc : TypeId × Value → H} {W : World} {base b0 : Nat} {r : Reach} {held : Bool} {v : Value} {d : DataW H} {p : List MemPlace} (hv : Value.okWide Try.prog W r b0 26 v) (h : DataW.Trod enc Try.prog W base (fun _ => true) held 26 v d p) :
    ∃ a len cap ss, v = .slice a len cap ∧ W64r ss ∧ ∃ vs, Reads W W.heap.size 1 a len vs ∧ Rows W W.heap.size vs ss := by
  obtain ⟨a, len, cap, rfl⟩ := okWide_slice Try.underlying26 hv
  obtain ⟨fuel, hf⟩ := h
  exact open_rows (v := .slice a len cap) hf
set_option maxRecDepth 100000 in
theorem open_tab {H : Type} {enc : TypeId × Value → H} {W : World} {base b0 : Nat} {r : Reach} {held : Bool} {v : Value} {d : DataW H} {p : List MemPlace} (hv : Value.okWide Try.prog W r b0 28 v) (h : DataW.Trod enc Try.prog W base (fun _ => true) held 28 v d p) :
    ∃ (a : Option Addr) (n c : Nat) (a' : Option Addr) (n' c' : Nat) (ws : List Int) (ss : List (List Int)), v = .agg #[.slice a n c, .slice a' n' c'] ∧ Tab W W.heap.size a n c a' n' c' ws ss ∧ ∀ i, ∀ x ∈ stg ss i, W64 x := by
  obtain ⟨u0, u1, y0, y1, n, rfl, _, _, g0, g1⟩ := Go.Joins.open_agg2 Try.underlying28 (by kernel_rfl) (by kernel_rfl) hv h
  obtain ⟨a, l, c, ws, rfl, hr, hc, _, _⟩ := open_row g0
  obtain ⟨a', l', c', ss, rfl, hss, hst⟩ := open_rows g1
  exact ⟨a, l, c, a', l', c', ws, ss, rfl, ⟨hr, hc, hst⟩, hss.at_⟩
theorem W64s_of {l : List (Int × Int × Int)} (h : ∀ x ∈ l, W64 x.2.2) : W64s l := by
  intro c
  induction l with
  | nil => exact (by simp [W64] : W64 0)
  | cons x l ih =>
    obtain ⟨lo, hi, v⟩ := x
    rw [valF]
    split
    · exact h (lo, hi, v) (by simp)
    · exact ih fun y hy => h y (by simp [hy])
set_option maxRecDepth 100000 in
theorem open_spans {H : Type} {enc : TypeId × Value → H} {W : World} {base b0 : Nat} {r : Reach} {held : Bool} {v : Value} {d : DataW H} {p : List MemPlace} (hv : Value.okWide Try.prog W r b0 22 v) (h : DataW.Trod enc Try.prog W base (fun _ => true) held 22 v d p) :
    ∃ (a : Option Addr) (n c : Nat) (l : List (Int × Int × Int)), v = .slice a n c ∧ Reads W W.heap.size 3 a n (l.flatMap spv) ∧ n ≤ c ∧ W64s l := by
  obtain ⟨a, len, cap, rfl⟩ := okWide_slice Try.underlying22 hv
  obtain ⟨fuel, hf⟩ := h
  have ce : Try.prog.cellsOf 48 = 3 := by kernel_rfl
  have ci : Try.prog.cellsOf 3 = 1 := by kernel_rfl
  rcases Go.Deep.open_slice Try.underlying22 hf with ⟨hcs, _⟩ | ⟨x, len', cap', m, n, D, Pl, hcs, _, hl, hm, hmm, _, hx⟩
  · simp [Value.cells] at hcs
    obtain ⟨rfl, rfl, rfl⟩ := hcs
    exact ⟨none, 0, 0, [], rfl, Reads.none_, Nat.le_refl _, W64s_of (by simp)⟩
  · simp [Value.cells] at hcs
    obtain ⟨rfl, rfl, rfl⟩ := hcs
    simp at hmm
    subst hmm
    have each : ∀ i, i < len → ∃ q : Int × Int × Int, W.cell? (x.add (i * 3)) = some (.int .i64 q.1) ∧ W.cell? (x.add (i * 3 + 1)) = some (.int .i64 q.2.1) ∧ W.cell? (x.add (i * 3 + 2)) = some (.int .i64 q.2.2) ∧ W64 q.2.2 := by
      intro i hi
      obtain ⟨cs', h1, h2⟩ := hx i (by omega)
      rw [ce] at h1
      obtain ⟨_, hlen, hcell⟩ := World.cells?_some h1
      obtain ⟨y0, y1, y2, k, _, _, g0, g1, g2⟩ := Go.Deep.trod_struct3 Try.underlying48 h2
      match cs', hlen with
      | [v0, v1, v2], _ =>
        have e0 := hcell 0 (by omega)
        have e1 := hcell 1 (by omega)
        have e2 := hcell 2 (by omega)
        rw [add_of_add] at e0 e1 e2
        simp only [ci, List.drop_zero, List.take_succ_cons, List.take_zero, List.drop_succ_cons] at g0 g1 g2
        obtain ⟨k0, q0, _, _⟩ := DataW.trod_int Try.underlying3 g0
        obtain ⟨k1, q1, _, _⟩ := DataW.trod_int Try.underlying3 g1
        obtain ⟨k2, q2, _, w2⟩ := DataW.trod_int Try.underlying3 g2
        simp at q0 q1 q2
        subst q0 q1 q2
        exact ⟨(k0, k1, k2), by simpa using e0, by simpa using e1, by simpa using e2, W64_of w2⟩
    obtain ⟨q, hq⟩ := Go.Deep.choose_lt each
    refine ⟨some x, len, m, (List.range len).map q, rfl, ⟨by rw [spv_len]; simp, fun h0 => ⟨x, rfl, ?_, fun j u hj => ?_⟩⟩, hl, W64s_of fun y hy => ?_⟩
    · have := lt_of_cell (hq 0 h0).1; rwa [block_of_add] at this
    · have hjl : j < len * 3 := by have := (List.getElem?_eq_some_iff.1 hj).1; rw [spv_len] at this; simpa using this
      have hi : j / 3 < len := by omega
      have hx : ((List.range len).map q)[j / 3]? = some (q (j / 3)) := by rw [List.getElem?_map, List.getElem?_range hi]; rfl
      obtain ⟨o1, o2, o3⟩ := spv_at hx
      obtain ⟨c1, c2, c3, _⟩ := hq (j / 3) hi
      have h3 : j = j / 3 * 3 ∨ j = j / 3 * 3 + 1 ∨ j = j / 3 * 3 + 2 := by omega
      rcases h3 with h3 | h3 | h3
      · rw [← h3] at o1 c1
        rw [o1] at hj; injection hj with hj; rw [c1, hj]
      · rw [← h3] at o2 c2
        rw [o2] at hj; injection hj with hj; rw [c2, hj]
      · rw [← h3] at o3 c3
        rw [o3] at hj; injection hj with hj; rw [c3, hj]
    · obtain ⟨i, hi, rfl⟩ := List.mem_map.1 hy
      exact (hq i (List.mem_range.1 hi)).2.2.2
end Go.Proofs.Ytnlmikefihaldaa

/- Proved: 'Rows.ImageTablesSaid': the law 'unicodetext/unicodetextlaw15.ImageTables' returns true for every input, and leaves its arguments as they were. (The frame: the kit's proof-skeleton.mjs.) -/
import Derived.Test.YthpngcfggnhdjaaRows
import Derived.Test.YthpngcfggnhdjaaTk
import Derived.Lib.SmallJoins
import Derived.Deep.Matrix
import Derived.SizedLaws
import Derived.WalkKit
import Derived.ProofKit
import Derived.OpenShut
import Derived.ShutString
import Derived.ChangeOld
import Derived.Below
namespace Go.Proofs.Ythpngcfggnhdjaa.imageTables
open Go.ChangeShapes Go.WideShapes Go.ChangeAt Go.RowKit Go.Proofs.Img
open Go.ChangeMaps (open_string shut_string)
set_option linter.unusedVariables false

theorem own : ownKnob Try.prog.godebug = none := by kernel_rfl
theorem laidOut : laidOutB Try.prog = true := by kernel_rfl
def IsRow (k : IntKind) (w : World) (a : Option Addr) (len cap : Nat) (zs : List Int) : Prop :=
  (a = none ∧ len = 0 ∧ cap = 0 ∧ zs = []) ∨
  ∃ x, a = some x ∧ len ≤ cap ∧ cap ≤ maxLen ∧ zs.length = cap ∧ (∀ i, i < zs.length → w.cell? (x.add i) = some (.int k (zs.getD i 0))) ∧ ∀ n ∈ zs, (Lit.int k n).wf = true

theorem reach0 {H : Type} {a b : List (DataW H)} {d1 : DataW H} (hsz : (DataW.weightsEach Try.prog [51] [.agg [.slice a b, d1]]).all (· ≤ reachBytes) = true) : (a.length + b.length) * 8 ≤ reachBytes := by
  have hb : Try.prog.bytesOf 3 = 8 := by kernel_rfl
  simp [DataW.weightsEach, DataW.weights, Try.underlying51, Try.underlying26, hb] at hsz
  omega
theorem open_row {H : Type} {enc : TypeId × Value → H} {W : World} {base n : Nat} {held : Bool} {v : Value} {y : DataW H × List MemPlace} {d1 : DataW H} (hf : DataW.trod enc Try.prog W base (fun _ => true) held n 26 [v] = some y) (hsz : (DataW.weightsEach Try.prog [51] [.agg [y.1, d1]]).all (· ≤ reachBytes) = true) :
    ∃ a len cap zs, v = .slice a len cap ∧ IsRow .i64 W a len cap zs ∧ len ≤ 1000000000000000 := by
  rcases open_ints Try.underlying26 Try.underlying3 (by kernel_rfl) hf with ⟨hcs, _⟩ | ⟨x, l, c, zs, hcs, _, hl, hm, hz, hy, hcell, hwz⟩
  · simp at hcs
    subst hcs
    exact ⟨_, _, _, [], rfl, .inl ⟨rfl, rfl, rfl, rfl⟩, by omega⟩
  · simp at hcs
    subst hcs
    simp only [if_true] at hz
    subst hy
    have := reach0 hsz
    simp [lits] at this
    unfold reachBytes at this
    exact ⟨_, _, _, zs, rfl, .inr ⟨_, rfl, hl, hm, hz, hcell, hwz⟩, by omega⟩
theorem open_rows {H : Type} {enc : TypeId × Value → H} {W : World} {base n : Nat} {held : Bool} {v : Value} {y : DataW H × List MemPlace} (hf : DataW.trod enc Try.prog W base (fun _ => true) held n 49 [v] = some y) :
    ∃ a len cap ss, v = .slice a len cap ∧ len ≤ maxLen ∧ (∀ l ∈ ss, (∀ x ∈ l, I64 x) ∧ l.length ≤ maxLen) ∧ ∃ vs, Reads W W.heap.size 1 a len vs ∧ Rows W W.heap.size vs ss := by
  rcases Go.Deep.open_int_rows Try.underlying49 Try.underlying26 Try.underlying3 (by kernel_rfl) (by kernel_rfl) hf with ⟨hcs, _⟩ | ⟨a, len, cap, A, L, C, Z, hcs, _, hl, hm, _, hx⟩
  · simp at hcs
    subst hcs
    exact ⟨none, 0, 0, [], rfl, Nat.zero_le _, by simp, [], Reads.none_, rfl, fun i xs h => by simp at h⟩
  · simp at hcs
    subst hcs
    have hlen : ∀ r, r < len → ((Z r).take (L r)).length = L r := fun r hr => by obtain ⟨_, h1, _, h3, _⟩ := hx r (by omega); rw [List.length_take]; omega
    refine ⟨some a, len, cap, (List.range len).map fun r => (Z r).take (L r), rfl, by omega, ?_, (List.range len).map fun r => .slice (A r) (L r) (C r), ⟨by simp, fun h0 => ⟨a, rfl, ?_, ?_⟩⟩, by simp, ?_⟩
    · intro l hl'
      simp at hl'
      obtain ⟨r, hr, rfl⟩ := hl'
      obtain ⟨_, h1, h2, h3, h4, _⟩ := hx r (by omega)
      refine ⟨fun x hx' => ?_, by rw [hlen r hr]; omega⟩
      have := h4 x (List.mem_of_mem_take hx')
      simp [Lit.wf, IntKind.min, IntKind.max, IntKind.signed, IntKind.bits] at this
      unfold I64; omega
    · have := World.block_lt_of_cell? W (a.add 0) (hx 0 (by omega)).1
      rw [block_of_add] at this
      exact this
    · intro j u hj
      have hj2 : j < len := by have := (List.getElem?_eq_some_iff.1 hj).1; simpa using this
      simp only [List.getElem?_map, List.getElem?_range hj2, Option.map_some, Option.some.injEq] at hj
      subst hj
      exact (hx j (by omega)).1
    · intro i xs hi
      have hi2 : i < len := by have := (List.getElem?_eq_some_iff.1 hi).1; simpa using this
      simp only [List.getElem?_map, List.getElem?_range hi2, Option.map_some, Option.some.injEq] at hi
      subst hi
      obtain ⟨_, h1, h2, h3, h4, h5, h6⟩ := hx i (by omega)
      refine ⟨A i, C i, by simp [List.getElem?_range hi2, hlen i hi2], by rw [hlen i hi2]; exact h1, ⟨by simp, fun h0 => ?_⟩⟩
      rw [hlen i hi2] at h0
      cases hA : A i with
      | none => have := h5 hA; omega
      | some a' =>
        obtain ⟨_, h7⟩ := h6 a' hA
        refine ⟨a', rfl, ?_, fun j u hj => ?_⟩
        · have := World.block_lt_of_cell? W (a'.add 0) (h7 0 (by omega))
          rw [block_of_add] at this
          exact this
        · rw [List.getElem?_map] at hj
          obtain ⟨z, hz, rfl⟩ := Option.map_eq_some_iff.1 hj
          have hjl : j < L i := by have := (List.getElem?_eq_some_iff.1 hz).1; rw [List.length_take] at this; omega
          rw [List.getElem?_take, if_pos hjl] at hz
          rw [h7 j (by omega), List.getD_eq_getElem?_getD, hz]
          rfl

set_option maxRecDepth 100000 in
theorem lifted (os : Os) (started : os.Started) (H : Type) (enc : TypeId × Value → H) :
    ReturnsInHanded {} Try.checked os 12 .any (Rows.imageTablesSpec.pre6 enc Try.prog Try.f12 Rows.imageTablesRow.domain false) (Rows.imageTablesSpec.post enc Try.prog Try.f12 false true false false) := by
  refine returnsInHanded_of_change_sized (C := Try.checked) own started (by kernel_rfl) Try.func12
    (ChangeSpec.witness6 (enc := enc) (C := Try.checked) false ⟨#[], #[.agg #[.slice none 0 0, .slice none 0 0]], []⟩ 8 (by kernel_rfl) (by kernel_rfl) (by kernel_rfl) (by kernel_rfl)) ?_
  intro W base args ds gs before hval0 hW hcnd hsz _
  have hval : ∀ (j : Nat) t v, Try.f12.params[j]? = some t → args[j]? = some v → Value.okWide Try.prog W .any base t v := hval0
  have hW' := hW
  obtain ⟨p, q, hA0, hV, rfl, hfz, hnd⟩ := hW
  have hA : DataW.TrodAll enc Try.prog W 0 (fun _ => true) true Try.f12.params.toList args.toList ds p := hA0
  have hsz2 : (DataW.weightsEach Try.prog (Try.f12.params.toList ++ Rows.imageTablesSpec.plain.varTypes Try.prog) (ds ++ gs)).all (· ≤ reachBytes) = true := hsz
  rw [Try.params12] at hA hval hsz2
  obtain ⟨v0, vs0, d0, ds0, p0, q0, hargs, rfl, rfl, h0, r0⟩ := trodAll_cons hA
  obtain ⟨rfl, rfl, rfl⟩ := trodAll_nil r0
  obtain rfl : args = #[v0] := by cases args; simp_all
  obtain ⟨rfl, rfl⟩ := trodVars_none hV
  have k0 := h0
  have lt0 : ∀ x ∈ p0, x.block < W.heap.size := by obtain ⟨m, hm⟩ := k0; exact DataW.trod_lt m _ _ _ hm
  obtain ⟨u0, u1, y0, y1, n, rfl, rfl, _, g0, g1⟩ := Go.Joins.open_agg2 Try.underlying51 (by kernel_rfl) (by kernel_rfl) (hval 0 51 v0 rfl rfl) h0
  obtain ⟨a0, len0, cap0, z0, rfl, w0, hb0⟩ := open_row g0 hsz2
  obtain ⟨a1, len1, cap1, ss, rfl, hb1, hss, hst⟩ := open_rows g1
  clear hA0 hval0
  obtain ⟨x, r0, i0, hc0⟩ := reads_of_row w0
  refine (wk_tables a0 a1 len0 cap0 len1 cap1 x ss W ⟨r0, ?_, hst⟩ i0 (fun l hl => (hss l hl).1) hb0 (by unfold maxLen at hb1; omega) (fun i => stg_mem (p := fun l => l.length ≤ 9223372036854775807) (fun l hl => by have := (hss l hl).2; unfold maxLen at this; omega) (by simp))).mono fun e W' ⟨he, bel⟩ => ?_
  · rcases w0 with ⟨_, h1, h2, _⟩ | ⟨_, _, h1, _⟩ <;> omega
  subst he
  exact ⟨_, rfl, _, _, _, [], _, [], hW', trodAll_mk1 (shut_bool Try.underlying4 _), (trodAll_cons_mk (Below.trod laidOut (by kernel_rfl) (of_decide_eq_true (by kernel_rfl)) k0 bel lt0) trodAll_mk0), rfl, bel.frame _, fun h => by cases h⟩

theorem over : Rows.imageTablesRow.holds Try.pinned (OpenSpec.ofChange Rows.imageTablesSpec) :=
  OpenClaim.holds_of_wide 12 Try.f12 rfl rfl rfl rfl rfl rfl rfl ⟨rfl, rfl, rfl, rfl, rfl⟩ rfl rfl rfl rfl rfl (by kernel_rfl) Try.func12 (by kernel_rfl)
    (of_decide_eq_true (by kernel_rfl)) (by unfold Func.isWrapper; first | (rw [if_pos (by decide +kernel)]; kernel_rfl) | (rw [if_neg (by decide +kernel)]; exact ⟨rfl, rfl⟩))
    (fun os started H enc _ => lifted os started H enc)

theorem proved : Rows.ImageTablesSaid := over
#print axioms proved
end Go.Proofs.Ythpngcfggnhdjaa.imageTables

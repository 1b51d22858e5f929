/- Maps that the call has made, as functions from keys to values: made, asked, written, counted. -/
import Derived.Test.YtnlmikefihaldaaWords
import Derived.Maps.OwnSet
namespace Go.Proofs.Ytnlmikefihaldaa
open Go.RowKit
open Go.Maps (Keyed)

/-- block b is a map of n entries that holds f (kk: what a key reads as, ee: what an element reads as) -/
def MapIs {α β : Type} (P : Program) (k e : TypeId) (kk : α → Lit) (ee : β → Lit) (w : World) (b n : Nat) (f : α → Option β) : Prop :=
  ∃ D : DataW Unit, w.ownsMap P k (plainElem P e) b n D ∧ Maps.size D = n ∧ ∀ x, Maps.has D (kk x) = (f x).isSome ∧ ∀ z, D.atKey (kk x) z = match f x with | some v => .lit (ee v) | none => z
def upd {α β : Type} [DecidableEq α] (f : α → Option β) (x : α) (v : β) : α → Option β := fun y => if y = x then some v else f y
theorem lit_value {P : Program} {e : TypeId} {v : Value} {l : Lit} {ps : List MemPlace} (h : plainElem (H := Unit) P e v = some (.lit l, ps)) : v = l.value := by
  unfold plainElem at h
  split at h
  · cases h; rfl
  · split at h
    · rename_i hc; obtain ⟨rfl, _⟩ := hc; cases h; rfl
    · cases h
  · split at h
    · cases h; rfl
    · cases h
  · cases h
theorem owns_exact {P : Program} {k : TypeId} {R : Value → Option (DataW Unit × List MemPlace)} {w : World} {b n : Nat} {D : DataW Unit} (h : w.ownsMap P k R b n D) : w.ownsMap P k R b (Maps.size D) D := by
  obtain ⟨es, clock, hb, F, _, rfl⟩ := h
  exact ⟨es, clock, hb, F, by simp [Maps.size, length_sorted], rfl⟩
section
variable {α β : Type} {P : Program} {k e : TypeId} {kk : α → Lit} {ee : β → Lit} {w w' : World} {b n : Nat} {f : α → Option β}
theorem MapIs.made (P : Program) (k e : TypeId) (kk : α → Lit) (ee : β → Lit) (w : World) : MapIs P k e kk ee (w.alloc (.map #[] 0)) w.heap.size 0 (fun _ => none) :=
  ⟨.map [], World.ownsMap_made w P k _, rfl, fun _ => ⟨rfl, fun _ => rfl⟩⟩
theorem MapIs.lt (h : MapIs P k e kk ee w b n f) : b < w.heap.size := by obtain ⟨D, h1, _⟩ := h; exact h1.lt
theorem MapIs.kept {row : Option Nat} (h : MapIs P k e kk ee w b n f) (hg : w.grownBy w' row) (hne : some b ≠ row) : MapIs P k e kk ee w' b n f := by
  obtain ⟨D, h1, h2⟩ := h; exact ⟨D, h1.kept hg hne, h2⟩
theorem MapIs.below {B : Nat} (h : MapIs P k e kk ee w b n f) (hb : Below B w w') (hlt : b < B) : MapIs P k e kk ee w' b n f := by
  obtain ⟨D, ⟨es, clock, hh, hr⟩, h2⟩ := h
  exact ⟨D, ⟨es, clock, (hb.block b hlt).trans hh, hr⟩, h2⟩
theorem MapIs.stay (h : MapIs P k e kk ee w b n f) (hb : Below w.heap.size w w') : MapIs P k e kk ee w' b n f := h.below hb h.lt
theorem MapIs.alloc (h : MapIs P k e kk ee w b n f) (o : Obj) : MapIs P k e kk ee (w.alloc o) b n f := by obtain ⟨D, h1, h2⟩ := h; exact ⟨D, h1.alloc o, h2⟩
theorem MapIs.setCell (h : MapIs P k e kk ee w b n f) {a : Addr} (ha : b ≠ a.block) (u : Value) : MapIs P k e kk ee (w.setCell a u) b n f := by
  obtain ⟨D, h1, h2⟩ := h; exact ⟨D, h1.setCell ha u, h2⟩
theorem MapIs.drewN (h : MapIs P k e kk ee w b n f) (q : Nat) : MapIs P k e kk ee (w.drewN q) b n f := h
/-- 'm[k]' -/
theorem MapIs.look {t : TypeId} (h : MapIs P k e kk ee w b n f) (K : Keyed P k) (ht : P.underlying t = some (.map k e)) {z : Value} {zv : β} (hz : (zeroValue e).run P w = .ok z w) (hzl : plainElem (H := Unit) P e z = some (.lit (ee zv), []))
    {key : Value} {x : α} (hkey : keyOf P k key = some (kk x)) : (Instr.lookup t (.map (some b)) key false).run P w = .ok (ee ((f x).getD zv)).value w := by
  obtain ⟨D, h1, _, h3⟩ := h
  obtain ⟨v, ps, hrun, hv⟩ := h1.lookup K ht hz hzl hkey
  rw [(h3 x).2] at hv
  rw [hrun]
  cases hf : f x with
  | none => rw [hf] at hv; rw [lit_value hv]; rfl
  | some y => rw [hf] at hv; rw [lit_value hv]; rfl
/-- 'v, ok := m[k]' -/
theorem MapIs.look2 {t : TypeId} (h : MapIs P k e kk ee w b n f) (K : Keyed P k) (ht : P.underlying t = some (.map k e)) {z : Value} {zv : β} (hz : (zeroValue e).run P w = .ok z w) (hzl : plainElem (H := Unit) P e z = some (.lit (ee zv), []))
    {key : Value} {x : α} (hkey : keyOf P k key = some (kk x)) : (Instr.lookup t (.map (some b)) key true).run P w = .ok (.tuple #[(ee ((f x).getD zv)).value, .bool (f x).isSome]) w := by
  obtain ⟨D, h1, _, h3⟩ := h
  obtain ⟨v, ps, hrun, hv⟩ := h1.look_ok K ht hz hzl hkey
  rw [(h3 x).2] at hv
  rw [hrun, (h3 x).1]
  cases hf : f x with
  | none => rw [hf] at hv; rw [lit_value hv]; rfl
  | some y => rw [hf] at hv; rw [lit_value hv]; rfl
/-- 'm[k] = v' -/
theorem MapIs.put [DecidableEq α] {t : TypeId} (h : MapIs P k e kk ee w b n f) (inj : ∀ x y, kk x = kk y → x = y) (K : Keyed P k) (ht : P.underlying t = some (.map k e)) (hn : n < maxLen) {key val : Value} {x : α} {v : β}
    (hkey : keyOf P k key = some (kk x)) (hval : plainElem (H := Unit) P e val = some (.lit (ee v), [])) :
    ∃ w', (Instr.mapUpdate t (.map (some b)) key val).run P w = .ok () w' ∧ MapIs P k e kk ee w' b (if (f x).isSome then n else n + 1) (upd f x v) ∧ w.grownBy w' (some b) ∧ w'.heap.size = w.heap.size := by
  obtain ⟨D, h1, h2, h3⟩ := h
  have hm := h1.isMap
  have hty := h1.tidy K
  have hk := K.key hkey
  obtain ⟨w', hrun, ho, hg⟩ := h1.store K ht hn hkey hval
  have hsz : w'.heap.size = w.heap.size := by obtain ⟨es, c, es', c', _, e⟩ := hg; subst e; simp [Go.ChangeMaps.setBlock]
  have hs : Maps.size (D.put (kk x) (.lit (ee v))) = if (f x).isSome then n else n + 1 := by
    rw [Maps.size_put hty, (h3 x).1, h2]
  refine ⟨w', hrun, ⟨D.put (kk x) (.lit (ee v)), ?_, hs, fun y => ?_⟩, hg.grown, hsz⟩
  · have := owns_exact ho
    rw [hs] at this
    exact this
  · by_cases hx : y = x
    · subst hx
      simp only [upd, if_true]
      exact ⟨by rw [Maps.has_put_same hm hk]; rfl, fun z => Maps.atKey_put_same hm hk _ _⟩
    · have hne : kk y ≠ kk x := fun e => hx (inj _ _ e)
      simp only [upd, if_neg hx]
      exact ⟨by rw [Maps.has_put_other hne]; exact (h3 y).1, fun z => by rw [Maps.atKey_put_other hne]; exact (h3 y).2 z⟩
/-- 'len(m)' -/
theorem MapIs.len {t : TypeId} (h : MapIs P k e kk ee w b n f) (ht : P.underlying t = some (.map k e)) (ty : TypeId) : (Builtin.len_ #[t] ty #[.map (some b)]).run P w = .ok (.int .i64 n) w := by
  obtain ⟨D, h1, h2, _⟩ := h
  rw [h1.len ht ty, h2]
theorem wpList_put [DecidableEq α] {ops : Array Oper} {rest : List Oper} {o : Oper} {a : Act} {Q : Exit → Act → World → Prop} (hg : o.guard = none) (m y v : Operand) (t : TypeId) (hop : o.op = Op.mapUpdate t m y v)
    (inj : ∀ x y, kk x = kk y → x = y) (K : Keyed P k) (ht : P.underlying t = some (.map k e)) (hm : a.eval m = .map (some b)) (h : MapIs P k e kk ee w b n f) (hn : n < maxLen) (key val : Value) (x : α) (u : β) (hx : a.eval y = key) (hv : a.eval v = val)
    (hkey : keyOf P k key = some (kk x)) (hval : plainElem (H := Unit) P e val = some (.lit (ee u), []))
    (hK : ∀ w', MapIs P k e kk ee w' b (if (f x).isSome then n else n + 1) (upd f x u) → w.grownBy w' (some b) → w'.heap.size = w.heap.size → wpList P ops Q rest (a.put o.dst undef) w') :
    wpList P ops Q (o :: rest) a w := by
  refine wpList_plain hg fun K' hK' => ?_
  obtain ⟨w', hrun, r1, r2, r3⟩ := h.put inj K ht hn hkey hval
  unfold Oper.wp
  simp [execOp, hop, hm, hx, hv, hrun, Result.andThen]
  exact hK' _ _ (hK w' r1 r2 r3)
end
theorem keyOf_str {P : Program} {k : TypeId} (hk : P.underlying k = some .string) (s : List UInt8) (hs : s.length ≤ maxLen) : keyOf P k (.string ⟨s.toArray⟩) = some (.string s) := Go.WideMaps.keyOf_string_mk hk hs
theorem keyOf_i64 {P : Program} {k : TypeId} (hk : P.underlying k = some (.int .i64)) (x : Int) (h1 : -9223372036854775808 ≤ x) (h2 : x ≤ 9223372036854775807) : keyOf P k (.int .i64 x) = some (.int .i64 x) :=
  Maps.keyOf_int_mk hk (by simp [Lit.wf, IntKind.min, IntKind.max, IntKind.signed, IntKind.bits]; omega)
theorem inj_str (x y : List UInt8) (h : Lit.string x = Lit.string y) : x = y := by injection h
theorem inj_i64 (x y : Int) (h : Lit.int .i64 x = Lit.int .i64 y) : x = y := by injection h
end Go.Proofs.Ytnlmikefihaldaa

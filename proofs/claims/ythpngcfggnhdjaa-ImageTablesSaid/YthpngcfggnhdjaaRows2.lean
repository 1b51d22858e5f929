/- Lists of lists: reading them one after the other, and how they lie in memory while a list of them grows. -/
import Derived.Test.YthpngcfggnhdjaaRRI
import Derived.Deep.RegionHeld3
import Derived.Deep.AppendLies
namespace Go.Proofs.Ythpngcfggnhdjaa
open Go.RowKit Go.Proofs.Img

def lists : Nat → List UInt8 → Except Int (List (List Int) × Nat)
  | 0, _ => .ok ([], 0)
  | n + 1, s =>
    match readL s with
    | .error e => .error e
    | .ok (xs, k) =>
      match lists n (s.drop k) with
      | .error e => .error e
      | .ok (ls, m) => .ok (xs :: ls, k + m)
def preL (xs : List (List Int)) (m : Nat) : Except Int (List (List Int) × Nat) → Except Int (List (List Int) × Nat)
  | .error e => .error e
  | .ok (ys, k) => .ok (xs ++ ys, m + k)
theorem preL_nil (r : Except Int (List (List Int) × Nat)) : preL [] 0 r = r := by cases r <;> simp [preL]
theorem preL_ok (xs : List (List Int)) (m n : Nat) (l : List UInt8) (x : List Int) (k : Nat) (h : readL (l.drop m) = .ok (x, k)) :
    preL xs m (lists (n + 1) (l.drop m)) = preL (xs ++ [x]) (m + k) (lists n (l.drop (m + k))) := by
  rw [lists, h]
  simp only [List.drop_drop]
  cases lists n (l.drop (m + k)) with
  | error e => rfl
  | ok r => obtain ⟨ys, q⟩ := r; simp [preL, Nat.add_assoc]
theorem preL_err (xs : List (List Int)) (m n : Nat) (l : List UInt8) (c : Int) (h : readL (l.drop m) = .error c) : preL xs m (lists (n + 1) (l.drop m)) = .error c := by
  rw [lists, h]; rfl
theorem bodyP_lists (s : List UInt8) : bodyP s = match lists 3 s with
    | .error e => .error e
    | .ok (ls, m) => if m = s.length then .ok ⟨ls.getD 0 [], ls.getD 1 [], ls.getD 2 []⟩ else .error 2 := by
  unfold bodyP
  cases h1 : readL s with
  | error e => simp only [lists, h1]
  | ok x =>
    obtain ⟨a, i⟩ := x
    simp only [lists, h1]
    cases h2 : readL (s.drop i) with
    | error e => simp only
    | ok y =>
      obtain ⟨b, j⟩ := y
      simp only [List.drop_drop]
      cases h3 : readL (s.drop (i + j)) with
      | error e => simp only
      | ok z =>
        obtain ⟨c, k⟩ := z
        simp only [Nat.add_zero, Nat.add_assoc]
        rfl

def RowsIn (w : World) (B : Nat) (vs : List Value) (ls : List (List Int)) (g : Option Nat) : Prop :=
  vs.length = ls.length ∧ ∀ (i : Nat) u xs, vs[i]? = some u → ls[i]? = some xs → ∃ A c, u = .slice A xs.length c ∧ Reads w w.heap.size 1 A xs.length (xs.map iv) ∧ ∀ ad, A = some ad → 0 < xs.length → B ≤ ad.block ∧ g ≠ some ad.block
theorem RowsIn.nil (w : World) (B : Nat) (g : Option Nat) : RowsIn w B [] [] g := ⟨rfl, by intro i u xs h; simp at h⟩
theorem stayR {w w' : World} {A : Option Addr} {n : Nat} {xs : List Value} (h : Reads w w.heap.size 1 A n xs) (hb : Below w.heap.size w w') : Reads w' w'.heap.size 1 A n xs := (h.below hb).more hb.size
theorem RowsIn.stay {w w' : World} {B : Nat} {vs : List Value} {ls : List (List Int)} {g : Option Nat} (h : RowsIn w B vs ls g) (hb : Below w.heap.size w w') : RowsIn w' B vs ls g :=
  ⟨h.1, fun i u xs h1 h2 => by obtain ⟨A, c, e, hr, hn⟩ := h.2 i u xs h1 h2; exact ⟨A, c, e, stayR hr hb, hn⟩⟩
theorem RowsIn.add {w : World} {B : Nat} {vs : List Value} {ls : List (List Int)} {g : Option Nat} (h : RowsIn w B vs ls g) {A : Option Addr} {c : Nat} {xs : List Int} (hr : Reads w w.heap.size 1 A xs.length (xs.map iv)) (hn : ∀ ad, A = some ad → 0 < xs.length → B ≤ ad.block ∧ g ≠ some ad.block) :
    RowsIn w B (vs ++ [.slice A xs.length c]) (ls ++ [xs]) g := by
  refine ⟨by simp [h.1], fun i u ys h1 h2 => ?_⟩
  by_cases hi : i < vs.length
  · rw [List.getElem?_append_left hi] at h1
    rw [List.getElem?_append_left (by rw [← h.1]; exact hi)] at h2
    exact h.2 i u ys h1 h2
  · have hi2 : i = vs.length := by
      have := (List.getElem?_eq_some_iff.1 h1).1
      simp at this; omega
    subst hi2
    rw [List.getElem?_append_right (Nat.le_refl _)] at h1
    rw [List.getElem?_append_right (by rw [← h.1]; exact Nat.le_refl _)] at h2
    simp [h.1] at h1 h2
    subst h1 h2
    exact ⟨A, c, rfl, hr, hn⟩
theorem reads_far {w w' : World} {A : Option Addr} {n : Nat} {xs : List Value} {g : Option Nat} (h : Reads w w.heap.size 1 A n xs) (hne : ∀ ad, A = some ad → 0 < n → g ≠ some ad.block) (hg : w.grownBy w' g) : Reads w' w'.heap.size 1 A n xs := by
  refine ⟨h.1, fun hn => ?_⟩
  obtain ⟨ad, e, hb, hc⟩ := h.2 hn
  refine ⟨ad, e, Nat.lt_of_lt_of_le hb hg.size, fun j u hu => ?_⟩
  rw [← hc j u hu]
  exact World.cell?_of_block (hg.block _ (by rw [block_of_add]; exact hb) (by rw [block_of_add]; exact (hne ad e hn).symm))
theorem RowsIn.grow {w w' : World} {B : Nat} {vs : List Value} {ls : List (List Int)} {g g' : Option Nat} (h : RowsIn w B vs ls g) (hg : w.grownBy w' g) (hg' : g' = g ∨ ∃ N, g' = some N ∧ w.heap.size ≤ N) : RowsIn w' B vs ls g' := by
  refine ⟨h.1, fun i u xs h1 h2 => ?_⟩
  obtain ⟨A, c, e, hr, hn⟩ := h.2 i u xs h1 h2
  refine ⟨A, c, e, reads_far hr (fun ad ha h0 => (hn ad ha h0).2) hg, fun ad ha h0 => ?_⟩
  rcases hg' with rfl | ⟨N, rfl, hN⟩
  · exact hn ad ha h0
  · refine ⟨(hn ad ha h0).1, ?_⟩
    intro eq
    injection eq with eq
    subst ha
    obtain ⟨ad', e', hb, _⟩ := hr.2 h0
    injection e' with e'
    subst e'
    omega
theorem Try.info26 : (Try.prog.info? 26).map (fun i => (i.zero, i.size, i.bytes)) = some (some (.slice none 0 0), 1, 24) := by kernel_rfl
theorem reads_set {w : World} {A : Option Addr} {n B b i : Nat} {xs : List Value} (h : Reads w w.heap.size 1 A n xs) (hB : ∀ ad, A = some ad → 0 < n → B ≤ ad.block) (hb : b < B) (u : Value) : Reads (w.setCell ⟨b, i, none⟩ u) (w.setCell ⟨b, i, none⟩ u).heap.size 1 A n xs := by
  refine ⟨h.1, fun hn => ?_⟩
  obtain ⟨ad, e, hlt, hc⟩ := h.2 hn
  have := hB ad e hn
  refine ⟨ad, e, by simpa [World.setCell] using hlt, fun j v hv => ?_⟩
  rw [← hc j v hv]
  exact World.cell?_setCell_other _ _ _ _ (fun eq => by
    have hblk : (ad.add j).block = b := by first | rw [eq] | rw [← eq]
    rw [block_of_add] at hblk
    omega)
theorem reads_3 {w : World} {A : Option Addr} {n B b : Nat} {xs : List Value} (h : Reads w w.heap.size 1 A n xs) (hB : ∀ ad, A = some ad → 0 < n → B ≤ ad.block) (hb : b < B) (x y z : Value) :
    Reads (((w.setCell ⟨b, 0, none⟩ x).setCell ⟨b, 1, none⟩ y).setCell ⟨b, 2, none⟩ z) (((w.setCell ⟨b, 0, none⟩ x).setCell ⟨b, 1, none⟩ y).setCell ⟨b, 2, none⟩ z).heap.size 1 A n xs :=
  reads_set (reads_set (reads_set h hB hb x) hB hb y) hB hb z
/-- the block of a row that was just made lies behind all that was there -/
theorem own_loc {w : World} {base n c : Nat} {e : TypeId} {A : Option Addr} {xs : List Value} (h : w.ownsRow base e 1 (.slice A n c) n xs) (h0 : 0 < n) : ∀ ad, A = some ad → base ≤ ad.block := by
  intro ad ha
  subst ha
  obtain ⟨g, cap, hv, hg, _⟩ := h.form h0
  injection hv with hv
  injection hv with hv
  subst hv
  exact hg
/-- 'append(rows, row)' -/
theorem wpList_appRow {ops : Array Oper} {rest : List Oper} {o : Oper} {a : Act} {Q : Exit → Act → World → Prop} (hgd : o.guard = none) (s x : Operand)
    (ho : o.op = .call { callee := .builtin .append, args := #[s, x], argTypes := #[49, 49] })
    {base : Nat} (w0 : World) (v : Value) (n : Nat) (vs : List Value) (ls : List (List Int)) (hs : a.eval s = v) (hown : w0.ownsRow base 26 1 v n vs)
    (A : Option Addr) (c : Nat) (xs : List Int) (hx : a.eval x = .slice (some ⟨w0.heap.size, 0, none⟩) 1 1)
    (hR : RowsIn w0 base vs ls v.ownBlock) (hr : Reads w0 w0.heap.size 1 A xs.length (xs.map iv)) (hne : ∀ ad, A = some ad → 0 < xs.length → base ≤ ad.block ∧ v.ownBlock ≠ some ad.block)
    (hn : n ≤ 1000000000) (hbase : base ≤ w0.heap.size)
    (h : ∀ v' w', w'.ownsRow base 26 1 v' (n + 1) (vs ++ [.slice A xs.length c]) → RowsIn w' base (vs ++ [.slice A xs.length c]) (ls ++ [xs]) v'.ownBlock → Below base w0 w' → (∀ g, v'.ownBlock = some g → g < w'.heap.size) → wpList Try.prog ops Q rest (a.put o.dst v') w') :
    wpList Try.prog ops Q (o :: rest) a (w0.alloc (.cells #[.slice A xs.length c] 26)) := by
  obtain ⟨i0, hi, hz0, hz1, hz2⟩ := info_parts Try.info26
  refine wpList_append_lies _ hgd s x 49 ho base 26 i0 _ 1 24 Try.underlying49 hi hz0 hz1 hz2 rfl (by omega) v n vs hs (hown.alloc _) ⟨w0.heap.size, 0, none⟩ 1 1 [.slice A xs.length c] hx rfl (cell_one_new _ _ _)
    (by simp [Value.oneCell']) (by omega) (by unfold maxLen; omega) (by omega) (by simp; omega) (w0.heap.size + 1) (by simp) ?_
  intro g cap w' h1 h2 h3 h4
  have hst := newBl w0 (.cells #[.slice A xs.length c] 26)
  have hall := (hR.add (A := A) (c := c) (xs := xs) hr hne).stay hst
  refine h _ w' h1 (hall.grow h2 ?_) (((Below.refl _ _).alloc hbase _).grown h2 (by simp; omega) (fun g eg => (hown.lt g eg).1)) (fun g' e => ?_)
  · rcases h3 with h3 | h3
    · left; rw [h3]; rfl
    · right; exact ⟨g, rfl, by simp; omega⟩
  · have : g = g' := by simpa [Value.ownBlock] using e
    omega
end Go.Proofs.Ythpngcfggnhdjaa

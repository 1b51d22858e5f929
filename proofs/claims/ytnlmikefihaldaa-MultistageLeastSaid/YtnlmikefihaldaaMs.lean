/- Spans in plain Lean: valid spans are given by their values; spans are made from the left to the right. -/
import Derived.Test.YtnlmikefihaldaaMb
namespace Go.Proofs.Ytnlmikefihaldaa
open Go.RowKit

theorem okS_cons {x : Int × Int × Int} {r : List (Int × Int × Int)} (h : okS (x :: r)) : okS1 x ∧ okS r ∧ (∀ y, r[0]? = some y → okS2 x y) ∧ ∀ y ∈ r, x.2.1 < y.1 :=
  ⟨h.1 0 x rfl, ⟨fun i y hy => h.1 (i + 1) y (by simpa using hy), fun i a b ha hb => h.2 (i + 1) a b (by simpa using ha) (by simpa using hb)⟩, fun y hy => h.2 0 x y rfl (by simpa using hy), fun y hy => by
    obtain ⟨t, ht⟩ := List.getElem?_of_mem hy
    exact okS_sorted h (i := 0) rfl t y (by simpa using ht)⟩
theorem valF_zero {l : List (Int × Int × Int)} {c : Int} (h : ∀ y ∈ l, ¬ (y.1 ≤ c ∧ c ≤ y.2.1)) : valF l c = 0 := valF_none fun _ _ hx => h _ (List.mem_of_getElem? hx)
theorem spans_uniq : ∀ {l l' : List (Int × Int × Int)}, okS l → okS l' → (∀ c : Nat, c < 1114112 → valF l (c : Int) = valF l' (c : Int)) → l = l'
  | [], [], _, _, _ => rfl
  | [], (lo, hi, v) :: r, _, h', he => by
    obtain ⟨⟨a1, a2, a3, a4⟩, _⟩ := okS_cons h'
    simp only at a1 a2 a3 a4
    have := he lo.toNat (by omega)
    rw [Int.toNat_of_nonneg a1, valF, valF, if_pos ⟨Int.le_refl _, a2⟩] at this
    exact absurd this.symm a4
  | (lo, hi, v) :: r, [], h, _, he => by
    obtain ⟨⟨a1, a2, a3, a4⟩, _⟩ := okS_cons h
    simp only at a1 a2 a3 a4
    have := he lo.toNat (by omega)
    rw [Int.toNat_of_nonneg a1, valF, valF, if_pos ⟨Int.le_refl _, a2⟩] at this
    exact absurd this a4
  | (lo, hi, v) :: r, (lo', hi', v') :: r', h, h', he => by
    obtain ⟨⟨a1, a2, a3, a4⟩, hr, b2, b3⟩ := okS_cons h
    obtain ⟨⟨a1', a2', a3', a4'⟩, hr', b2', b3'⟩ := okS_cons h'
    simp only at a1 a2 a3 a4 b3 a1' a2' a3' a4' b3'
    have z : ∀ c, c ≤ hi → valF r c = 0 := fun c hc => valF_zero fun y hy hh => by have := b3 y hy; omega
    have z' : ∀ c, c ≤ hi' → valF r' c = 0 := fun c hc => valF_zero fun y hy hh => by have := b3' y hy; omega
    have e1 : lo = lo' := by
      rcases Int.lt_trichotomy lo lo' with q | q | q
      · have := he lo.toNat (by omega)
        rw [Int.toNat_of_nonneg a1, valF, valF, if_pos ⟨Int.le_refl _, a2⟩, if_neg (by omega), z' _ (by omega)] at this
        exact absurd this a4
      · exact q
      · have := he lo'.toNat (by omega)
        rw [Int.toNat_of_nonneg a1', valF, valF, if_neg (by omega), z _ (by omega), if_pos ⟨Int.le_refl _, a2'⟩] at this
        exact absurd this.symm a4'
    subst e1
    have e2 : v = v' := by
      have := he lo.toNat (by omega)
      rw [Int.toNat_of_nonneg a1, valF, valF, if_pos ⟨Int.le_refl _, a2⟩, if_pos ⟨Int.le_refl _, a2'⟩] at this
      exact this
    subst e2
    have nx : ∀ {r : List (Int × Int × Int)} {hi : Int}, okS r → (∀ y, r[0]? = some y → okS2 (lo, hi, v) y) → (∀ y ∈ r, hi < y.1) → valF r (hi + 1) ≠ v := by
      intro r hi hr b2 b3 hq
      cases r with
      | nil => rw [valF] at hq; exact a4 hq.symm
      | cons y r =>
        obtain ⟨l2, h2, v2⟩ := y
        have g1 := b2 _ rfl
        unfold okS2 at g1
        simp only at g1
        obtain ⟨k1, k2, k3, k4⟩ := okS_cons hr
        simp only at k4
        rw [valF] at hq
        by_cases q : l2 ≤ hi + 1 ∧ hi + 1 ≤ h2
        · rw [if_pos q] at hq
          exact g1.2 ⟨by omega, hq⟩
        · rw [if_neg q, valF_zero fun y hy hh => by
            have := k4 y hy
            have := k1.2.1
            simp only at this
            omega] at hq
          exact a4 hq.symm
    have e3 : hi = hi' := by
      rcases Int.lt_trichotomy hi hi' with q | q | q
      · have := he (hi + 1).toNat (by omega)
        rw [Int.toNat_of_nonneg (by omega), valF, valF, if_neg (by omega), if_pos (by omega)] at this
        exact absurd this (nx hr b2 b3)
      · exact q
      · have := he (hi' + 1).toNat (by omega)
        rw [Int.toNat_of_nonneg (by omega), valF, valF, if_pos (by omega), if_neg (by omega)] at this
        exact absurd this.symm (nx hr' b2' b3')
    subst e3
    rw [spans_uniq hr hr' fun c hc => ?_]
    rcases Int.lt_or_le hi (c : Int) with q | q
    · have := he c hc
      rw [valF, valF, if_neg (by omega), if_neg (by omega)] at this
      exact this
    · rw [z _ q, z' _ q]

theorem valF_one (lo hi v c : Int) : valF [(lo, hi, v)] c = if lo ≤ c ∧ c ≤ hi then v else 0 := rfl
theorem valF_app (a b : List (Int × Int × Int)) (c : Int) : ((∃ y ∈ a, y.1 ≤ c ∧ c ≤ y.2.1) → valF (a ++ b) c = valF a c) ∧ ((∀ y ∈ a, ¬ (y.1 ≤ c ∧ c ≤ y.2.1)) → valF (a ++ b) c = valF b c) := by
  induction a with
  | nil => exact ⟨fun ⟨y, hy, _⟩ => absurd hy (by simp), fun _ => rfl⟩
  | cons x a ih =>
    obtain ⟨lo, hi, v⟩ := x
    refine ⟨fun h => ?_, fun h => ?_⟩
    · rw [List.cons_append, valF, valF]
      by_cases q : lo ≤ c ∧ c ≤ hi
      · rw [if_pos q, if_pos q]
      · rw [if_neg q, if_neg q]
        obtain ⟨y, hy, hh⟩ := h
        rcases List.mem_cons.1 hy with rfl | hy
        · exact absurd hh q
        · exact ih.1 ⟨y, hy, hh⟩
    · rw [List.cons_append, valF, if_neg (h (lo, hi, v) (by simp))]
      exact ih.2 fun y hy => h y (by simp [hy])
/-- spans for the code points below c -/
structure SInv (f : Nat → Int) (l : List (Int × Int × Int)) (c : Nat) : Prop where
  ok : okS l
  hi : ∀ y ∈ l, y.2.1 < (c : Int)
  val : ∀ t : Nat, t < c → valF l (t : Int) = f t
theorem sinv_zero (f : Nat → Int) : SInv f [] 0 := ⟨⟨fun i x h => by simp at h, fun i x y h => by simp at h⟩, by simp, fun t h => absurd h (by omega)⟩
theorem sinv_skip {f : Nat → Int} {l : List (Int × Int × Int)} {c n : Nat} (h : SInv f l c) (hf : ∀ t, c ≤ t → t < c + n → f t = 0) : SInv f l (c + n) :=
  ⟨h.ok, fun y hy => by have := h.hi y hy; omega, fun t ht => by
    rcases Nat.lt_or_ge t c with q | q
    · exact h.val t q
    · rw [hf t q ht]; exact valF_zero fun y hy hh => by have := h.hi y hy; omega⟩
theorem okS_snoc {l : List (Int × Int × Int)} {x : Int × Int × Int} (h : okS l) (hx : okS1 x) (hl : ∀ y, l[l.length - 1]? = some y → okS2 y x) : okS (l ++ [x]) := by
  refine ⟨fun i y hy => ?_, fun i a b ha hb => ?_⟩
  · rcases Nat.lt_or_ge i l.length with q | q
    · rw [List.getElem?_append_left q] at hy; exact h.1 i y hy
    · rw [List.getElem?_append_right q] at hy
      rcases Nat.eq_zero_or_pos (i - l.length) with h0 | h0
      · rw [h0] at hy; simp at hy; subst hy; exact hx
      · rw [List.getElem?_eq_none (by simp; omega)] at hy; cases hy
  · rcases Nat.lt_or_ge (i + 1) l.length with q | q
    · rw [List.getElem?_append_left (by omega)] at ha
      rw [List.getElem?_append_left q] at hb
      exact h.2 i a b ha hb
    · rw [List.getElem?_append_right q] at hb
      rcases Nat.eq_zero_or_pos (i + 1 - l.length) with h0 | h0
      · rw [h0] at hb; simp at hb; subst hb
        rw [List.getElem?_append_left (by omega)] at ha
        exact hl a (by rw [show l.length - 1 = i by omega]; exact ha)
      · rw [List.getElem?_eq_none (by simp; omega)] at hb; cases hb
theorem sinv_new {f : Nat → Int} {l : List (Int × Int × Int)} {c n : Nat} {v z : Int} (h : SInv f l c) (hn : 0 < n) (hc : c + n ≤ 1114112) (hv : v ≠ 0) (hf : ∀ t, c ≤ t → t < c + n → f t = v) (hz : z = (c : Int) + (n : Int) - 1)
    (hl : ∀ y, l[l.length - 1]? = some y → ¬ ((c : Int) = y.2.1 + 1 ∧ v = y.2.2)) : SInv f (l ++ [((c : Int), z, v)]) (c + n) := by
  subst hz
  refine ⟨okS_snoc h.ok ⟨by simp, by simp only; omega, by simp only; omega, hv⟩ fun y hy => ⟨h.hi y (List.mem_of_getElem? hy), hl y hy⟩, fun y hy => ?_, fun t ht => ?_⟩
  · rcases List.mem_append.1 hy with hy | hy
    · have := h.hi y hy; omega
    · simp at hy; subst hy; simp only; omega
  · have ha := valF_app l [((c : Int), (c : Int) + (n : Int) - 1, v)] (t : Int)
    rcases Nat.lt_or_ge t c with q | q
    · by_cases hx : ∃ y ∈ l, y.1 ≤ (t : Int) ∧ (t : Int) ≤ y.2.1
      · rw [ha.1 hx]; exact h.val t q
      · rw [ha.2 (fun y hy hh => hx ⟨y, hy, hh⟩), valF, if_neg (by omega), valF]
        rw [← h.val t q, valF_zero fun y hy hh => hx ⟨y, hy, hh⟩]
    · rw [ha.2 (fun y hy hh => by have := h.hi y hy; omega), valF, if_pos (by omega), hf t q ht]
theorem sinv_more {f : Nat → Int} {l : List (Int × Int × Int)} {c n : Nat} {lo hi v z : Int} (h : SInv f (l ++ [(lo, hi, v)]) c) (hn : 0 < n) (hc : c + n ≤ 1114112) (hh : hi + 1 = (c : Int)) (hf : ∀ t, c ≤ t → t < c + n → f t = v) (hz : z = (c : Int) + (n : Int) - 1) :
    SInv f (l ++ [(lo, z, v)]) (c + n) := by
  subst hz
  have hlast : (l ++ [(lo, hi, v)])[l.length]? = some (lo, hi, v) := by simp
  have hx := h.ok.1 _ _ hlast
  have hpre : okS l := ⟨fun i x hx => h.ok.1 i x (by rw [List.getElem?_append_left (List.getElem?_eq_some_iff.1 hx).1]; exact hx), fun i x y hx hy => h.ok.2 i x y (by rw [List.getElem?_append_left (List.getElem?_eq_some_iff.1 hx).1]; exact hx) (by rw [List.getElem?_append_left (List.getElem?_eq_some_iff.1 hy).1]; exact hy)⟩
  have hlt : ∀ y ∈ l, y.2.1 < lo := fun y hy => by
    obtain ⟨t, ht⟩ := List.getElem?_of_mem hy
    have htl := (List.getElem?_eq_some_iff.1 ht).1
    exact okS_sorted h.ok (i := t) (by rw [List.getElem?_append_left htl]; exact ht) (l.length - t - 1) (lo, hi, v) (by rw [show t + (l.length - t - 1) + 1 = l.length by omega]; exact hlast)
  unfold okS1 at hx
  simp only at hx
  obtain ⟨x1, x2, x3, x4⟩ := hx
  refine ⟨okS_snoc hpre ⟨x1, by simp only; omega, by simp only; omega, x4⟩ fun y hy => ?_, fun y hy => ?_, fun t ht => ?_⟩
  · have hll : l.length - 1 < l.length := (List.getElem?_eq_some_iff.1 hy).1
    have := h.ok.2 (l.length - 1) y (lo, hi, v) (by rw [List.getElem?_append_left hll]; exact hy) (by rw [show l.length - 1 + 1 = l.length by omega]; exact hlast)
    exact this
  · rcases List.mem_append.1 hy with hy | hy
    · have := hlt y hy; omega
    · simp at hy; subst hy; simp only; omega
  · have ha := valF_app l [(lo, (c : Int) + (n : Int) - 1, v)] (t : Int)
    have hb := valF_app l [(lo, hi, v)] (t : Int)
    rcases Nat.lt_or_ge t c with q | q
    · have hv := h.val t q
      by_cases hx : ∃ y ∈ l, y.1 ≤ (t : Int) ∧ (t : Int) ≤ y.2.1
      · rw [ha.1 hx, ← hv, hb.1 hx]
      · have hx' : ∀ y ∈ l, ¬ (y.1 ≤ (t : Int) ∧ (t : Int) ≤ y.2.1) := fun y hy hh => hx ⟨y, hy, hh⟩
        rw [ha.2 hx', ← hv, hb.2 hx', valF_one, valF_one]
        by_cases q2 : lo ≤ (t : Int)
        · rw [if_pos (by omega), if_pos (by omega)]
        · rw [if_neg (by omega), if_neg (by omega)]
    · rw [ha.2 (fun y hy hh => by have := hlt y hy; omega), valF, if_pos (by omega), hf t q ht]
theorem sinv_end {f : Nat → Int} {l : List (Int × Int × Int)} (h : SInv f l 1114112) {l' : List (Int × Int × Int)} (h' : okS l') (hf : ∀ c, c < 1114112 → f c = valF l' (c : Int)) : l = l' :=
  spans_uniq h.ok h' fun c hc => by rw [h.val c hc, hf c hc]
end Go.Proofs.Ytnlmikefihaldaa

/- Converting between encodings in plain Lean: coders, decoding, encoding, the strict conversion; no program in sight. -/
import Derived.Test.YtbcbmmgfdobdiaaDoorP8
namespace Go.Proofs.YtbcbmmgfdobdiaaDoor
open Go.RowKit

/-- two bytes are a unit -/
def unit2 (big : Bool) (a b : UInt8) : Nat := if big = true then 256 * a.toNat + b.toNat else 256 * b.toNat + a.toNat
def pr16 (big : Bool) (u : Nat) : List UInt8 := if big = true then [UInt8.ofNat (u / 256), UInt8.ofNat (u % 256)] else [UInt8.ofNat (u % 256), UInt8.ofNat (u / 256)]
def sur (u : Nat) : Bool := decide (55296 ≤ u ∧ u ≤ 57343)
def two16 (u v : Nat) : Nat × Nat × Bool := if sur u = true then (if u ≤ 56319 ∧ 56320 ≤ v ∧ v ≤ 57343 then (65536 + (u - 55296) * 1024 + (v - 56320), 4, true) else (0, 2, false)) else (u, 2, true)
def one16 (u : Nat) : Nat × Nat × Bool := if sur u = true then (0, 2, false) else (u, 2, true)
def step16 (big : Bool) : List UInt8 → Nat × Nat × Bool
  | [] => (0, 0, false)
  | [_] => (0, 1, false)
  | [a, b] => one16 (unit2 big a b)
  | [a, b, _] => one16 (unit2 big a b)
  | a :: b :: c :: d :: _ => two16 (unit2 big a b) (unit2 big c d)
def formL16 (big : Bool) (c : Nat) : List UInt8 := if c < 65536 then pr16 big c else pr16 big (55296 + (c - 65536) / 1024) ++ pr16 big (56320 + (c - 65536) % 1024)
theorem pr16_two (big : Bool) (u : Nat) (h : u < 65536) : ∃ a b, pr16 big u = [a, b] ∧ unit2 big a b = u := by
  cases big with
  | true => exact ⟨_, _, rfl, by simp only [unit2, if_true]; rw [ofNat_toNat _ (by omega), ofNat_toNat _ (by omega)]; omega⟩
  | false => exact ⟨_, _, rfl, by simp only [unit2, Bool.false_eq_true, if_false]; rw [ofNat_toNat _ (by omega), ofNat_toNat _ (by omega)]; omega⟩
theorem unit2_lt (big : Bool) (a b : UInt8) : unit2 big a b < 65536 := by
  have := a.toNat_lt; have := b.toNat_lt
  cases big <;> simp [unit2] <;> omega
theorem pr16_unit (big : Bool) (a b : UInt8) : pr16 big (unit2 big a b) = [a, b] := by
  have ha := a.toNat_lt; have hb := b.toNat_lt
  cases big with
  | true => simp only [pr16, unit2, if_true]; rw [ofNat_of (b := a) (by omega), ofNat_of (b := b) (by omega)]
  | false => simp only [pr16, unit2, Bool.false_eq_true, if_false]; rw [ofNat_of (b := a) (by omega), ofNat_of (b := b) (by omega)]
theorem sur_false {u : Nat} : sur u = false ↔ ¬ (55296 ≤ u ∧ u ≤ 57343) := by simp only [sur, decide_eq_false_iff_not]
theorem sur_true {u : Nat} : sur u = true ↔ (55296 ≤ u ∧ u ≤ 57343) := by simp only [sur, decide_eq_true_eq]
theorem one16_of {u : Nat} (h : sur u = false) : one16 u = (u, 2, true) := by simp [one16, h]
theorem one16_bad {u : Nat} (h : sur u = true) : one16 u = (0, 2, false) := by simp [one16, h]
theorem step16_pair (big : Bool) (a b : UInt8) (t : List UInt8) (h : sur (unit2 big a b) = false) : step16 big (a :: b :: t) = (unit2 big a b, 2, true) := by
  match t with
  | [] => exact one16_of h
  | [_] => exact one16_of h
  | c :: d :: t => simp [step16, two16, h]
theorem step16_form (big : Bool) (c : Nat) (h : scalB (c : Int) = true) (t : List UInt8) : step16 big (formL16 big c ++ t) = (c, (formL16 big c).length, true) := by
  obtain ⟨hc, hs⟩ := (scal_nat c).1 h
  unfold formL16
  by_cases h1 : c < 65536
  · rw [if_pos h1]
    obtain ⟨a, b, e, hu⟩ := pr16_two big c h1
    rw [e]
    show step16 big (a :: b :: t) = _
    rw [step16_pair big a b t (by rw [hu, sur_false]; exact hs), hu]; rfl
  · rw [if_neg h1]
    obtain ⟨a, b, e, hu⟩ := pr16_two big (55296 + (c - 65536) / 1024) (by omega)
    obtain ⟨x, y, e', hv⟩ := pr16_two big (56320 + (c - 65536) % 1024) (by omega)
    rw [e, e']
    show two16 (unit2 big a b) (unit2 big x y) = _
    rw [hu, hv, two16, if_pos (by rw [sur_true]; omega), if_pos (by omega)]
    exact trip (by omega) rfl
theorem two16_ok {u v c n : Nat} (h : two16 u v = (c, n, true)) : (sur u = false ∧ c = u ∧ n = 2) ∨ (55296 ≤ u ∧ u ≤ 56319 ∧ 56320 ≤ v ∧ v ≤ 57343 ∧ c = 65536 + (u - 55296) * 1024 + (v - 56320) ∧ n = 4) := by
  unfold two16 at h
  cases hs : sur u with
  | false => rw [hs] at h; simp at h; exact .inl ⟨rfl, h.1.symm, h.2.symm⟩
  | true =>
    rw [hs, if_pos rfl] at h
    split at h
    · rename_i hv
      simp only [Prod.mk.injEq, and_true] at h
      have := sur_true.1 hs
      exact .inr ⟨by omega, hv.1, hv.2.1, hv.2.2, h.1.symm, h.2.symm⟩
    · simp at h
theorem step16_ok (big : Bool) (s : List UInt8) (c n : Nat) (h : step16 big s = (c, n, true)) : scalB (c : Int) = true ∧ formL16 big c = s.take n := by
  have one : ∀ (a b : UInt8) (t : List UInt8), one16 (unit2 big a b) = (c, n, true) → scalB (c : Int) = true ∧ formL16 big c = (a :: b :: t).take n := by
    intro a b t h
    unfold one16 at h
    cases hs : sur (unit2 big a b) with
    | true => rw [hs] at h; simp at h
    | false =>
      rw [hs] at h
      simp at h
      obtain ⟨rfl, rfl⟩ := h
      have := unit2_lt big a b
      have hs2 := sur_false.1 hs
      refine ⟨(scal_nat _).2 (by omega), ?_⟩
      rw [formL16, if_pos this, pr16_unit]; rfl
  match s, h with
  | [], h => simp [step16] at h
  | [_], h => simp [step16] at h
  | [a, b], h => exact one a b [] h
  | [a, b, x], h => exact one a b [x] h
  | a :: b :: x :: y :: t, h =>
    have hu := unit2_lt big a b
    have h' : two16 (unit2 big a b) (unit2 big x y) = (c, n, true) := h
    rcases two16_ok h' with ⟨hs, hc, hn⟩ | ⟨h1, h2, h3, h4, hc, hn⟩
    · subst hc hn
      have hs2 := sur_false.1 hs
      refine ⟨(scal_nat _).2 (by omega), ?_⟩
      rw [formL16, if_pos hu, pr16_unit]; rfl
    · refine ⟨(scal_nat _).2 (by omega), ?_⟩
      rw [formL16, if_neg (by omega)]
      have e1 : 55296 + (c - 65536) / 1024 = unit2 big a b := by omega
      have e2 : 56320 + (c - 65536) % 1024 = unit2 big x y := by omega
      rw [e1, e2, pr16_unit, pr16_unit, hn]; rfl
theorem one16_n (u : Nat) : (one16 u).2.1 = 2 := by unfold one16; split <;> rfl
theorem two16_n (u v : Nat) : (two16 u v).2.1 = 2 ∨ (two16 u v).2.1 = 4 := by
  unfold two16; split
  · split
    · right; rfl
    · left; rfl
  · left; rfl
theorem step16_bd (big : Bool) (s : List UInt8) (h : s ≠ []) : 1 ≤ (step16 big s).2.1 ∧ (step16 big s).2.1 ≤ 4 ∧ (step16 big s).2.1 ≤ s.length := by
  match s, h with
  | [_], _ => simp [step16]
  | [a, b], _ => have := one16_n (unit2 big a b); simp only [step16]; simp; omega
  | [a, b, _], _ => have := one16_n (unit2 big a b); simp only [step16]; simp; omega
  | a :: b :: c :: d :: t, _ => have := two16_n (unit2 big a b) (unit2 big c d); simp only [step16]; simp; omega
theorem two16_short {u v : Nat} (h : (two16 u v).2.1 = 2) : two16 u v = one16 u := by
  unfold two16 at h ⊢
  unfold one16
  cases hs : sur u with
  | false => simp
  | true =>
    rw [hs, if_pos rfl] at h
    rw [if_pos rfl, if_pos rfl]
    split
    · rename_i hv; rw [if_pos hv] at h; simp at h
    · rfl
theorem step16_take (big : Bool) (s : List UInt8) (j : Nat) (h : (step16 big s).2.1 ≤ j) (hj : 1 ≤ j) : step16 big (s.take j) = step16 big s := by
  match s, h with
  | [], _ => simp
  | [a], _ =>
    obtain ⟨i, rfl⟩ : ∃ i, j = i + 1 := ⟨j - 1, by omega⟩
    simp
  | [a, b], h =>
    have := one16_n (unit2 big a b)
    have h2 : 2 ≤ j := by simp only [step16] at h; omega
    rw [List.take_of_length_le (by simpa using h2)]
  | [a, b, c], h =>
    have := one16_n (unit2 big a b)
    have h2 : 2 ≤ j := by simp only [step16] at h; omega
    by_cases h3 : j = 2
    · subst h3; rfl
    · rw [List.take_of_length_le (by simp; omega)]
  | a :: b :: c :: d :: t, h =>
    have hn := two16_n (unit2 big a b) (unit2 big c d)
    simp only [step16] at h
    by_cases h4 : 4 ≤ j
    · obtain ⟨i, rfl⟩ : ∃ i, j = i + 4 := ⟨j - 4, by omega⟩
      rfl
    · have hs := two16_short (u := unit2 big a b) (v := unit2 big c d) (by omega)
      have hj2 : j = 2 ∨ j = 3 := by omega
      rcases hj2 with rfl | rfl
      · show one16 _ = two16 _ _; exact hs.symm
      · show one16 _ = two16 _ _; exact hs.symm
/-- single bytes -/
def stepOne (codes : List Int) : List UInt8 → Nat × Nat × Bool
  | [] => (0, 0, false)
  | b :: _ => if codes.getD b.toNat (-1) < 0 then (0, 1, false) else ((codes.getD b.toNat (-1)).toNat, 1, true)
/-- the place of a code -/
def placeOf (codes : List Int) (c : Int) : Option Nat := codes.findIdx? (fun x => decide (x = c))
inductive Cd
  | u8
  | u16 (big : Bool)
  | one (codes : List Int)
def stepK : Cd → List UInt8 → Nat × Nat × Bool
  | .u8, s => step8 s
  | .u16 big, s => step16 big s
  | .one codes, s => stepOne codes s
def formK : Cd → Int → Option (List UInt8)
  | .u8, c => if scalB c = true then some (form8 c.toNat) else none
  | .u16 big, c => if scalB c = true then some (formL16 big c.toNat) else none
  | .one codes, c => if c < 0 then none else (placeOf codes c).map fun i => [UInt8.ofNat i]
/-- a charset without an error -/
def GoodCs (codes : List Int) : Prop := codes.length = 256 ∧ (∀ c ∈ codes, c = -1 ∨ scalB c = true) ∧ ∀ (i j : Nat) (c : Int), codes[i]? = some c → codes[j]? = some c → c = -1 ∨ i = j
def GoodK : Cd → Prop
  | .one codes => GoodCs codes
  | _ => True
theorem place_some {codes : List Int} {c : Int} {i : Nat} (h : placeOf codes c = some i) : codes[i]? = some c := by
  unfold placeOf at h
  rw [List.findIdx?_eq_some_iff_getElem] at h
  obtain ⟨hi, he, _⟩ := h
  simp at he
  rw [List.getElem?_eq_getElem hi, he]
theorem place_of {codes : List Int} (hg : GoodCs codes) {c : Int} {i : Nat} (h : codes[i]? = some c) (hc : 0 ≤ c) : placeOf codes c = some i := by
  cases hp : placeOf codes c with
  | none =>
    unfold placeOf at hp
    rw [List.findIdx?_eq_none_iff] at hp
    have := hp c (List.mem_of_getElem? h)
    simp at this
  | some j =>
    have := place_some hp
    rcases hg.2.2 j i c this h with h' | h'
    · omega
    · rw [h']
theorem formK_ne {K : Cd} {c : Int} {x : List UInt8} (h : formK K c = some x) : x ≠ [] ∧ x.length ≤ 4 := by
  cases K with
  | u8 =>
    simp only [formK] at h
    split at h
    · injection h with h; subst h
      have := form8_le c.toNat
      exact ⟨by intro e; rw [e] at this; simp at this, this.2⟩
    · cases h
  | u16 big =>
    simp only [formK] at h
    split at h
    · injection h with h; subst h
      unfold formL16 pr16
      split
      · split <;> simp
      · split <;> simp
    · cases h
  | one codes =>
    simp only [formK] at h
    split at h
    · cases h
    · cases hp : placeOf codes c with
      | none => rw [hp] at h; cases h
      | some i => rw [hp] at h; simp at h; subst h; simp
theorem stepK_form {K : Cd} (hK : GoodK K) {c : Int} {x : List UInt8} (h : formK K c = some x) (t : List UInt8) : stepK K (x ++ t) = (c.toNat, x.length, true) ∧ 0 ≤ c ∧ scalB c = true := by
  cases K with
  | u8 =>
    simp only [formK] at h
    split at h
    · rename_i hs
      injection h with h; subst h
      obtain ⟨n, rfl⟩ := Int.eq_ofNat_of_zero_le (scal_pos hs).1
      exact ⟨step_form n hs t, by omega, hs⟩
    · cases h
  | u16 big =>
    simp only [formK] at h
    split at h
    · rename_i hs
      injection h with h; subst h
      obtain ⟨n, rfl⟩ := Int.eq_ofNat_of_zero_le (scal_pos hs).1
      exact ⟨step16_form big n hs t, by omega, hs⟩
    · cases h
  | one codes =>
    simp only [formK] at h
    split at h
    · cases h
    · rename_i hc
      cases hp : placeOf codes c with
      | none => rw [hp] at h; cases h
      | some i =>
        rw [hp] at h; simp at h; subst h
        have hi := place_some hp
        obtain ⟨hl, he⟩ := List.getElem?_eq_some_iff.1 hi
        have h256 : i < 256 := by have := hK.1; omega
        have hsc : scalB c = true := by
          rcases hK.2.1 c (List.mem_of_getElem? hi) with h1 | h1
          · omega
          · exact h1
        refine ⟨?_, by omega, hsc⟩
        show stepOne codes (UInt8.ofNat i :: t) = _
        rw [stepOne, ofNat_toNat i h256]
        have hg : codes.getD i (-1) = c := by simp [List.getD, hi]
        rw [hg, if_neg hc]; rfl
theorem stepK_ok {K : Cd} (hK : GoodK K) {s : List UInt8} {c n : Nat} (h : stepK K s = (c, n, true)) : formK K (c : Int) = some (s.take n) ∧ scalB (c : Int) = true := by
  cases K with
  | u8 =>
    obtain ⟨h1, h2⟩ := step8_ok s c n h
    exact ⟨by simp only [formK]; rw [if_pos h1]; simp [h2], h1⟩
  | u16 big =>
    obtain ⟨h1, h2⟩ := step16_ok big s c n h
    exact ⟨by simp only [formK]; rw [if_pos h1]; simp [h2], h1⟩
  | one codes =>
    cases s with
    | nil => simp [stepK, stepOne] at h
    | cons b t =>
      simp only [stepK, stepOne] at h
      split at h
      · simp at h
      · rename_i hc
        simp only [Prod.mk.injEq, and_true] at h
        obtain ⟨h1, rfl⟩ := h
        have hb := b.toNat_lt
        have hi : codes[b.toNat]? = some (codes.getD b.toNat (-1)) := by
          have : b.toNat < codes.length := by have := hK.1; omega
          simp [List.getD, List.getElem?_eq_getElem this]
        have hcc : codes.getD b.toNat (-1) = (c : Int) := by omega
        rw [hcc] at hi
        have hsc : scalB (c : Int) = true := by
          rcases hK.2.1 _ (List.mem_of_getElem? hi) with h2 | h2
          · omega
          · exact h2
        refine ⟨?_, hsc⟩
        simp only [formK]
        rw [if_neg (by omega), place_of hK hi (by omega)]
        simp
theorem stepK_bd (K : Cd) (s : List UInt8) (h : s ≠ []) : 1 ≤ (stepK K s).2.1 ∧ (stepK K s).2.1 ≤ 4 ∧ (stepK K s).2.1 ≤ s.length := by
  cases K with
  | u8 => exact step8_bd s h
  | u16 big => exact step16_bd big s h
  | one codes =>
    cases s with
    | nil => exact absurd rfl h
    | cons b t => simp only [stepK, stepOne]; split <;> simp
theorem stepK_take (K : Cd) (s : List UInt8) (j : Nat) (h : (stepK K s).2.1 ≤ j) (hj : 1 ≤ j) : stepK K (s.take j) = stepK K s := by
  cases K with
  | u8 => exact step8_take s j h hj
  | u16 big => exact step16_take big s j h hj
  | one codes =>
    cases s with
    | nil => simp
    | cons b t =>
      obtain ⟨i, rfl⟩ : ∃ i, j = i + 1 := ⟨j - 1, by omega⟩
      rfl
def decK (K : Cd) (p : Int) : Nat → Nat → List UInt8 → Except Nat (List Int)
  | 0, _, _ => .ok []
  | f + 1, i, s => if s = [] then .ok [] else
      if (stepK K s).2.2 = true then pre8 [((stepK K s).1 : Int)] (decK K p f (i + (stepK K s).2.1) (s.drop (stepK K s).2.1))
      else if p = 1 then .error i else pre8 (ill8 (s.take (stepK K s).2.1) p) (decK K p f (i + (stepK K s).2.1) (s.drop (stepK K s).2.1))
theorem decK_nil (K : Cd) (p : Int) (f i : Nat) : decK K p f i [] = .ok [] := by cases f <;> simp [decK]
theorem decK_ok {K : Cd} {p : Int} {f i : Nat} {s : List UInt8} {c n : Nat} (hs : s ≠ []) (h : stepK K s = (c, n, true)) : decK K p (f + 1) i s = pre8 [(c : Int)] (decK K p f (i + n) (s.drop n)) := by
  rw [decK, if_neg hs, h]; rfl
theorem decK_fail {K : Cd} {f i : Nat} {s : List UInt8} {c n : Nat} (hs : s ≠ []) (h : stepK K s = (c, n, false)) : decK K 1 (f + 1) i s = .error i := by
  rw [decK, if_neg hs, h]; rfl
theorem decK_ill {K : Cd} {p : Int} {f i : Nat} {s : List UInt8} {c n : Nat} (hs : s ≠ []) (h : stepK K s = (c, n, false)) (hp : p ≠ 1) : decK K p (f + 1) i s = pre8 (ill8 (s.take n) p) (decK K p f (i + n) (s.drop n)) := by
  rw [decK, if_neg hs, h, if_neg (by simp), if_neg hp]
theorem drop_lessK {K : Cd} {s : List UInt8} {f : Nat} (hs : s ≠ []) (h : s.length ≤ f + 1) : (s.drop (stepK K s).2.1).length ≤ f := by
  have := stepK_bd K s hs
  rw [List.length_drop]; omega
/-- fuel and position do not matter -/
theorem decK_fuel (K : Cd) (p : Int) (hp : p ≠ 1) : ∀ (f g i j : Nat) (s : List UInt8), s.length ≤ f → s.length ≤ g → decK K p f i s = decK K p g j s := by
  intro f
  induction f with
  | zero => intro g i j s h _; obtain rfl : s = [] := List.eq_nil_of_length_eq_zero (by omega); rw [decK_nil, decK_nil]
  | succ f ih =>
    intro g i j s hf hg
    by_cases hs : s = []
    · subst hs; rw [decK_nil, decK_nil]
    · cases g with
      | zero => exact absurd (List.eq_nil_of_length_eq_zero (by omega)) hs
      | succ g =>
        have h1 := drop_lessK (K := K) hs hf
        have h2 := drop_lessK (K := K) hs hg
        rw [decK, decK, if_neg hs, if_neg hs, if_neg hp, if_neg hp]
        rw [ih g (i + (stepK K s).2.1) (j + (stepK K s).2.1) _ h1 h2]
/-- a cut between steps -/
inductive CutK (K : Cd) (s : List UInt8) : Nat → Prop
  | zero : CutK K s 0
  | step {a : Nat} : CutK K s a → a < s.length → CutK K s (a + (stepK K (s.drop a)).2.1)
theorem CutK.le {K : Cd} {s : List UInt8} {a : Nat} (h : CutK K s a) : a ≤ s.length := by
  cases h with
  | zero => omega
  | step h1 h2 =>
    rename_i a
    have := stepK_bd K (s.drop a) (by intro e; have := congrArg List.length e; simp at this; omega)
    rw [List.length_drop] at this; omega
/-- from the front: the first step of a cut -/
theorem CutK.front {K : Cd} {s : List UInt8} {a : Nat} (h : CutK K s a) (ha : 0 < a) : ∃ b, a = (stepK K s).2.1 + b ∧ CutK K (s.drop (stepK K s).2.1) b ∧ s ≠ [] := by
  induction h with
  | zero => omega
  | step h1 h2 ih =>
    rename_i a
    rcases Nat.eq_zero_or_pos a with h0 | h0
    · subst h0
      exact ⟨0, by simp, .zero, by intro e; subst e; simp at h2⟩
    · obtain ⟨b, e, hb, hs⟩ := ih h0
      subst e
      refine ⟨b + (stepK K ((s.drop (stepK K s).2.1).drop b)).2.1, ?_, .step hb ?_, hs⟩
      · rw [List.drop_drop]; omega
      · rw [List.length_drop]; omega
theorem decK_cut (K : Cd) (p : Int) (hp : p ≠ 1) : ∀ (a : Nat) (s : List UInt8) (f g h i : Nat) (x y : List Int), CutK K s a → s.length ≤ f → a ≤ g → s.length - a ≤ h →
    decK K p g i (s.take a) = .ok x → decK K p h i (s.drop a) = .ok y → decK K p f i s = .ok (x ++ y) := by
  intro a
  induction a using Nat.strongRecOn with
  | ind a ih =>
    intro s f g h i x y hc hf hg hh hx hy
    rcases Nat.eq_zero_or_pos a with h0 | h0
    · subst h0
      rw [List.take_zero, decK_nil] at hx
      rw [List.drop_zero] at hy
      injection hx with hx
      subst hx
      rw [decK_fuel K p hp f h i i s hf (by omega), hy]; rfl
    · obtain ⟨b, e, hb, hs⟩ := hc.front h0
      have hbd := stepK_bd K s hs
      have hle := hc.le
      have hta : s.take a ≠ [] := by intro e; have := congrArg List.length e; rw [List.length_take, List.length_nil] at this; omega
      have hst := stepK_take K s a (by omega) (by omega)
      cases f with
      | zero => omega
      | succ f =>
        cases g with
        | zero => omega
        | succ g =>
          obtain ⟨⟨c, n, ok⟩, hse⟩ : ∃ x, stepK K s = x := ⟨_, rfl⟩
          rw [hse] at e hbd hst hb
          simp only at e hbd hb
          have hd : (s.take a).drop n = (s.drop n).take b := by rw [List.drop_take]; congr 1; omega
          have htt : (s.take a).take n = s.take n := by rw [List.take_take]; congr 1; omega
          have hdd : s.drop a = (s.drop n).drop b := by rw [List.drop_drop, e]
          cases ok with
          | true =>
            rw [decK_ok hta hst, hd] at hx
            rw [decK_ok hs hse]
            rw [hdd] at hy
            cases hr : decK K p g (i + n) ((s.drop n).take b) with
            | error k => rw [hr] at hx; cases hx
            | ok x' =>
              rw [hr, pre8_ok] at hx
              injection hx with hx
              subst hx
              rw [decK_fuel K p hp h h i (i + n) _ (by rw [List.length_drop, List.length_drop]; omega) (by rw [List.length_drop, List.length_drop]; omega)] at hy
              rw [ih b (by omega) (s.drop n) f g h (i + n) x' y hb (by rw [List.length_drop]; omega) (by omega) (by rw [List.length_drop]; omega) hr hy, pre8_ok]
              simp
          | false =>
            rw [decK_ill hta hst hp, hd, htt] at hx
            rw [decK_ill hs hse hp]
            rw [hdd] at hy
            cases hr : decK K p g (i + n) ((s.drop n).take b) with
            | error k => rw [hr] at hx; cases hx
            | ok x' =>
              rw [hr, pre8_ok] at hx
              injection hx with hx
              subst hx
              rw [decK_fuel K p hp h h i (i + n) _ (by rw [List.length_drop, List.length_drop]; omega) (by rw [List.length_drop, List.length_drop]; omega)] at hy
              rw [ih b (by omega) (s.drop n) f g h (i + n) x' y hb (by rw [List.length_drop]; omega) (by omega) (by rw [List.length_drop]; omega) hr hy, pre8_ok]
              simp
theorem decK_len (K : Cd) (p : Int) : ∀ (f i : Nat) (s : List UInt8) (o : List Int), s.length ≤ f → decK K p f i s = .ok o → o.length ≤ 5 * s.length := by
  intro f
  induction f with
  | zero => intro i s o _ h; rw [decK] at h; injection h with h; subst h; simp
  | succ f ih =>
    intro i s o hf h
    by_cases hs : s = []
    · subst hs; rw [decK_nil] at h; injection h with h; subst h; simp
    · obtain ⟨⟨c, n, ok⟩, hst⟩ : ∃ x, stepK K s = x := ⟨_, rfl⟩
      have h1 := drop_lessK (K := K) hs hf
      have hbd := stepK_bd K s hs
      rw [hst] at h1 hbd
      simp only at hbd h1
      cases ok with
      | true =>
        rw [decK_ok hs hst] at h
        cases hr : decK K p f (i + n) (s.drop n) with
        | error e => rw [hr] at h; cases h
        | ok o' =>
          rw [hr, pre8_ok] at h
          injection h with h
          subst h
          have := ih _ _ _ h1 hr
          rw [List.length_drop] at this
          simp; omega
      | false =>
        by_cases hp : p = 1
        · subst hp; rw [decK_fail hs hst] at h; cases h
        · rw [decK_ill hs hst hp] at h
          cases hr : decK K p f (i + n) (s.drop n) with
          | error e => rw [hr] at h; cases h
          | ok o' =>
            rw [hr, pre8_ok] at h
            injection h with h
            subst h
            have := ih _ _ _ h1 hr
            rw [List.length_drop] at this
            have h2 := ill8_len (s.take n) p
            rw [List.length_take] at h2
            rw [List.length_append]; omega

/-- encoding -/
def escK (K : Cd) (c : Int) : List UInt8 := ([92, 117, 123] ++ hexB c ++ [125]).flatMap fun (b : UInt8) => (formK K (b.toNat : Int)).getD []
def lostK (K : Cd) (c p : Int) : List UInt8 := if p = 4 then escK K c else if p = 3 then [] else (formK K 65533).getD ((formK K 63).getD [])
def encK (K : Cd) (p : Int) : Nat → List Int → Except Nat (List UInt8)
  | _, [] => .ok []
  | i, c :: l => match formK K c with
    | some x => pre8 x (encK K p (i + 1) l)
    | none => if p = 1 then .error i else pre8 (lostK K c p) (encK K p (i + 1) l)
theorem encK_some {K : Cd} {p c : Int} {i : Nat} {l : List Int} {x : List UInt8} (h : formK K c = some x) : encK K p i (c :: l) = pre8 x (encK K p (i + 1) l) := by rw [encK, h]
theorem encK_fail {K : Cd} {c : Int} {i : Nat} {l : List Int} (h : formK K c = none) : encK K 1 i (c :: l) = .error i := by rw [encK, h]; rfl
theorem encK_lost {K : Cd} {p c : Int} {i : Nat} {l : List Int} (h : formK K c = none) (hp : p ≠ 1) : encK K p i (c :: l) = pre8 (lostK K c p) (encK K p (i + 1) l) := by rw [encK, h]; simp only; rw [if_neg hp]
theorem encK_other (K : Cd) (p : Int) (hp : p ≠ 1) : ∀ (l : List Int) (i : Nat), ∃ x, encK K p i l = .ok x := by
  intro l
  induction l with
  | nil => intro i; exact ⟨[], rfl⟩
  | cons c l ih =>
    intro i
    obtain ⟨y, hy⟩ := ih (i + 1)
    cases h : formK K c with
    | some x => exact ⟨x ++ y, by rw [encK_some h, hy]; rfl⟩
    | none => exact ⟨lostK K c p ++ y, by rw [encK_lost h hp, hy]; rfl⟩
theorem encK_app (K : Cd) (p : Int) : ∀ (l m : List Int) (i j : Nat) (x y : List UInt8), encK K p i l = .ok x → encK K p j m = .ok y → (p ≠ 1 ∨ i + l.length = j) → encK K p i (l ++ m) = .ok (x ++ y) := by
  intro l
  induction l with
  | nil =>
    intro m i j x y hx hy hp
    rw [encK] at hx; injection hx with hx; subst hx
    have pos : ∀ (m : List Int) (i j : Nat) (y : List UInt8), encK K p j m = .ok y → encK K p i m = .ok y := by
      intro m
      induction m with
      | nil => intro i j y h; exact h
      | cons c m ih =>
        intro i j y h
        cases hf : formK K c with
        | some z =>
          rw [encK_some hf] at h ⊢
          cases hr : encK K p (j + 1) m with
          | error e => rw [hr] at h; cases h
          | ok q => rw [hr] at h; rw [ih (i + 1) (j + 1) q hr]; exact h
        | none =>
          by_cases h1 : p = 1
          · subst h1; rw [encK_fail hf] at h; cases h
          · rw [encK_lost hf h1] at h ⊢
            cases hr : encK K p (j + 1) m with
            | error e => rw [hr] at h; cases h
            | ok q => rw [hr] at h; rw [ih (i + 1) (j + 1) q hr]; exact h
    exact pos m i j y hy
  | cons c l ih =>
    intro m i j x y hx hy hp
    rw [List.cons_append]
    cases hf : formK K c with
    | some z =>
      rw [encK_some hf] at hx ⊢
      cases hr : encK K p (i + 1) l with
      | error e => rw [hr] at hx; cases hx
      | ok q =>
        rw [hr, pre8_ok] at hx
        injection hx with hx
        subst hx
        rw [ih m (i + 1) j q y hr hy (by rcases hp with h | h; exact .inl h; right; simp at h; omega), pre8_ok, List.append_assoc]
    | none =>
      by_cases h1 : p = 1
      · subst h1; rw [encK_fail hf] at hx; cases hx
      · rw [encK_lost hf h1] at hx ⊢
        cases hr : encK K p (i + 1) l with
        | error e => rw [hr] at hx; cases hx
        | ok q =>
          rw [hr, pre8_ok] at hx
          injection hx with hx
          subst hx
          rw [ih m (i + 1) j q y hr hy (.inl h1), pre8_ok, List.append_assoc]
/-- the strict conversion: the code of a fault and its place -/
def preS (x : List UInt8) : Except (Int × Nat) (List UInt8) → Except (Int × Nat) (List UInt8)
  | .error e => .error e
  | .ok y => .ok (x ++ y)
theorem preS_preS (x y : List UInt8) (r : Except (Int × Nat) (List UInt8)) : preS x (preS y r) = preS (x ++ y) r := by cases r <;> simp [preS]
def strictK (K L : Cd) : Nat → Nat → List UInt8 → Except (Int × Nat) (List UInt8)
  | 0, _, _ => .ok []
  | f + 1, i, s => if s = [] then .ok [] else
      if (stepK K s).2.2 = true then
        match formK L ((stepK K s).1 : Int) with
        | some x => preS x (strictK K L f (i + (stepK K s).2.1) (s.drop (stepK K s).2.1))
        | none => .error (10, i)
      else .error (9, i)
theorem strictK_nil (K L : Cd) (f i : Nat) : strictK K L f i [] = .ok [] := by cases f <;> simp [strictK]
theorem strictK_ok {K L : Cd} {f i : Nat} {s x : List UInt8} {c n : Nat} (hs : s ≠ []) (h : stepK K s = (c, n, true)) (hx : formK L (c : Int) = some x) : strictK K L (f + 1) i s = preS x (strictK K L f (i + n) (s.drop n)) := by
  rw [strictK, if_neg hs, h]; simp only [if_true]; rw [hx]
theorem strictK_ill {K L : Cd} {f i : Nat} {s : List UInt8} {c n : Nat} (hs : s ≠ []) (h : stepK K s = (c, n, false)) : strictK K L (f + 1) i s = .error (9, i) := by
  rw [strictK, if_neg hs, h]; rfl
theorem strictK_un {K L : Cd} {f i : Nat} {s : List UInt8} {c n : Nat} (hs : s ≠ []) (h : stepK K s = (c, n, true)) (hx : formK L (c : Int) = none) : strictK K L (f + 1) i s = .error (10, i) := by
  rw [strictK, if_neg hs, h]; simp only [if_true]; rw [hx]
/-- converting back -/
theorem strictK_back (K L : Cd) (hK : GoodK K) (hL : GoodK L) : ∀ (f i : Nat) (s t : List UInt8), s.length ≤ f → strictK K L f i s = .ok t → ∀ (g j : Nat), t.length ≤ g → strictK L K g j t = .ok s := by
  intro f
  induction f with
  | zero =>
    intro i s t hf h g j _
    obtain rfl : s = [] := List.eq_nil_of_length_eq_zero (by omega)
    rw [strictK] at h; injection h with h; subst h
    exact strictK_nil _ _ _ _
  | succ f ih =>
    intro i s t hf h g j hg
    by_cases hs : s = []
    · subst hs; rw [strictK_nil] at h; injection h with h; subst h; exact strictK_nil _ _ _ _
    · obtain ⟨⟨c, n, ok⟩, hst⟩ : ∃ x, stepK K s = x := ⟨_, rfl⟩
      have hbd := stepK_bd K s hs
      rw [hst] at hbd
      simp only at hbd
      cases ok with
      | false => rw [strictK_ill hs hst] at h; cases h
      | true =>
        cases hx : formK L (c : Int) with
        | none => rw [strictK_un hs hst hx] at h; cases h
        | some x =>
          rw [strictK_ok hs hst hx] at h
          cases hr : strictK K L f (i + n) (s.drop n) with
          | error e => rw [hr] at h; cases h
          | ok t' =>
            rw [hr] at h
            injection h with h
            subst h
            obtain ⟨hne, _⟩ := formK_ne hx
            have hsf := (stepK_form hL hx t').1
            rw [Int.toNat_natCast] at hsf
            have hko := (stepK_ok hK hst).1
            have hxl : 0 < x.length := List.length_pos_iff.2 hne
            rw [List.length_append] at hg
            cases g with
            | zero => omega
            | succ g =>
              rw [strictK_ok (by intro e; rw [List.append_eq_nil_iff] at e; exact hne e.1) hsf hko, List.drop_left,
                ih _ _ _ (by rw [List.length_drop]; omega) hr g _ (by omega)]
              simp [preS]
end Go.Proofs.YtbcbmmgfdobdiaaDoor

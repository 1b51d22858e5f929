/- UTF-8 in plain Lean: forms, steps, encoding, decoding; no program in sight. -/
import Derived.Test.YtbcbmmgfdobdiaaDoorTxt
namespace Go.Proofs.YtbcbmmgfdobdiaaDoor
open Go.RowKit

/-- how many bytes follow a first byte -/
def more8 (b : Nat) : Nat := if 194 ≤ b ∧ b ≤ 223 then 1 else if 224 ≤ b ∧ b ≤ 239 then 2 else if 240 ≤ b ∧ b ≤ 244 then 3 else 0
def lo8 (b : Nat) : Nat := if b = 224 then 160 else if b = 240 then 144 else 128
def hi8 (b : Nat) : Nat := if b = 237 then 159 else if b = 244 then 143 else 191
def mod8 (m : Nat) : Nat := if m = 1 then 32 else if m = 2 then 16 else 8
def cont8 : Nat → Nat → Nat → Nat → Nat → List UInt8 → Nat × Nat × Bool
  | 0, k, v, _, _, _ => (v, k, true)
  | _ + 1, k, _, _, _, [] => (0, k, false)
  | m + 1, k, v, lo, hi, x :: t => if lo ≤ x.toNat ∧ x.toNat ≤ hi then cont8 m (k + 1) (64 * v + (x.toNat - 128)) 128 191 t else (0, k, false)
/-- the form or the ill-formed part at the beginning -/
def step8 : List UInt8 → Nat × Nat × Bool
  | [] => (0, 0, false)
  | b :: t => if b.toNat < 128 then (b.toNat, 1, true) else if more8 b.toNat = 0 then (0, 1, false) else
      cont8 (more8 b.toNat) 1 (b.toNat % mod8 (more8 b.toNat)) (lo8 b.toNat) (hi8 b.toNat) t
def form8 (c : Nat) : List UInt8 :=
  if c < 128 then [UInt8.ofNat c] else if c < 2048 then [UInt8.ofNat (192 + c / 64), UInt8.ofNat (128 + c % 64)]
  else if c < 65536 then [UInt8.ofNat (224 + c / 4096), UInt8.ofNat (128 + c / 64 % 64), UInt8.ofNat (128 + c % 64)]
  else [UInt8.ofNat (240 + c / 262144), UInt8.ofNat (128 + c / 4096 % 64), UInt8.ofNat (128 + c / 64 % 64), UInt8.ofNat (128 + c % 64)]
def len8 (c : Int) : Nat := if scalB c = true then (if c ≤ 127 then 1 else if c ≤ 2047 then 2 else if c ≤ 65535 then 3 else 4) else 0
theorem scal_nat (c : Nat) : scalB (c : Int) = true ↔ (c ≤ 1114111 ∧ ¬ (55296 ≤ c ∧ c ≤ 57343)) := by
  simp only [scalB, decide_eq_true_eq]; omega
theorem scal_pos {c : Int} (h : scalB c = true) : 0 ≤ c ∧ c ≤ 1114111 := by
  simp only [scalB, decide_eq_true_eq] at h; omega
theorem form8_len (c : Nat) (h : scalB (c : Int) = true) : (form8 c).length = len8 (c : Int) := by
  rw [len8, if_pos h, form8]
  by_cases h1 : c < 128
  · have a1 : (c : Int) ≤ 127 := by omega
    rw [if_pos h1, if_pos a1]; rfl
  · have a1 : ¬ (c : Int) ≤ 127 := by omega
    rw [if_neg h1, if_neg a1]
    by_cases h2 : c < 2048
    · have a2 : (c : Int) ≤ 2047 := by omega
      rw [if_pos h2, if_pos a2]; rfl
    · have a2 : ¬ (c : Int) ≤ 2047 := by omega
      rw [if_neg h2, if_neg a2]
      by_cases h3 : c < 65536
      · have a3 : (c : Int) ≤ 65535 := by omega
        rw [if_pos h3, if_pos a3]; rfl
      · have a3 : ¬ (c : Int) ≤ 65535 := by omega
        rw [if_neg h3, if_neg a3]; rfl
theorem trip {a b : Nat} {n m : Nat} (h : a = b) (h' : n = m) : (a, n, true) = (b, m, true) := by rw [h, h']
theorem form8_le (c : Nat) : 1 ≤ (form8 c).length ∧ (form8 c).length ≤ 4 := by
  unfold form8; split
  · simp
  · split
    · simp
    · split <;> simp
theorem ofNat_toNat (n : Nat) (h : n < 256) : (UInt8.ofNat n).toNat = n := by simp; omega
theorem ofNat_of {n : Nat} {b : UInt8} (h : n = b.toNat) : UInt8.ofNat n = b := by subst h; simp

/-- the step over a form -/
theorem step_form (c : Nat) (h : scalB (c : Int) = true) (t : List UInt8) : step8 (form8 c ++ t) = (c, (form8 c).length, true) := by
  obtain ⟨hc, hs⟩ := (scal_nat c).1 h
  unfold form8
  by_cases h1 : c < 128
  · rw [if_pos h1]
    simp only [List.cons_append, List.nil_append, step8, ofNat_toNat c (by omega)]
    rw [if_pos h1]; rfl
  · rw [if_neg h1]
    by_cases h2 : c < 2048
    · rw [if_pos h2]
      simp only [List.cons_append, List.nil_append, step8, ofNat_toNat (192 + c / 64) (by omega)]
      have hm : more8 (192 + c / 64) = 1 := by unfold more8; rw [if_pos (by omega)]
      have hl : lo8 (192 + c / 64) = 128 := by unfold lo8; rw [if_neg (by omega), if_neg (by omega)]
      have hh : hi8 (192 + c / 64) = 191 := by unfold hi8; rw [if_neg (by omega), if_neg (by omega)]
      rw [hm, hl, hh, if_neg (by omega), if_neg (by omega), cont8, ofNat_toNat (128 + c % 64) (by omega), if_pos (by omega), cont8]
      exact trip (by simp only [mod8, if_true]; omega) rfl
    · rw [if_neg h2]
      by_cases h3 : c < 65536
      · rw [if_pos h3]
        simp only [List.cons_append, List.nil_append, step8, ofNat_toNat (224 + c / 4096) (by omega)]
        have hm : more8 (224 + c / 4096) = 2 := by unfold more8; rw [if_neg (by omega), if_pos (by omega)]
        have hb : lo8 (224 + c / 4096) ≤ 128 + c / 64 % 64 ∧ 128 + c / 64 % 64 ≤ hi8 (224 + c / 4096) := by
          unfold lo8 hi8; constructor
          · split
            · omega
            · split <;> omega
          · split
            · omega
            · split <;> omega
        rw [hm, if_neg (by omega), if_neg (by omega), cont8, ofNat_toNat (128 + c / 64 % 64) (by omega), if_pos hb, cont8, ofNat_toNat (128 + c % 64) (by omega), if_pos (by omega), cont8]
        exact trip (by simp only [mod8]; simp only [Nat.reduceEqDiff, if_true, if_false]; omega) rfl
      · rw [if_neg h3]
        simp only [List.cons_append, List.nil_append, step8, ofNat_toNat (240 + c / 262144) (by omega)]
        have hm : more8 (240 + c / 262144) = 3 := by unfold more8; rw [if_neg (by omega), if_neg (by omega), if_pos (by omega)]
        have hb : lo8 (240 + c / 262144) ≤ 128 + c / 4096 % 64 ∧ 128 + c / 4096 % 64 ≤ hi8 (240 + c / 262144) := by
          unfold lo8 hi8; constructor
          · split
            · omega
            · split <;> omega
          · split
            · omega
            · split <;> omega
        rw [hm, if_neg (by omega), if_neg (by omega), cont8, ofNat_toNat (128 + c / 4096 % 64) (by omega), if_pos hb, cont8, ofNat_toNat (128 + c / 64 % 64) (by omega), if_pos (by omega),
          cont8, ofNat_toNat (128 + c % 64) (by omega), if_pos (by omega), cont8]
        exact trip (by simp only [mod8]; simp only [Nat.reduceEqDiff, if_false]; omega) rfl

theorem cont8_bd : ∀ (m k v lo hi : Nat) (t : List UInt8), k ≤ (cont8 m k v lo hi t).2.1 ∧ (cont8 m k v lo hi t).2.1 ≤ k + m ∧ (cont8 m k v lo hi t).2.1 ≤ k + t.length := by
  intro m
  induction m with
  | zero => intro k v lo hi t; simp [cont8]
  | succ m ih =>
    intro k v lo hi t
    cases t with
    | nil => simp [cont8]
    | cons x t =>
      rw [cont8]; split
      · have := ih (k + 1) (64 * v + (x.toNat - 128)) 128 191 t
        simp; omega
      · simp
theorem more8_le (b : Nat) : more8 b ≤ 3 := by
  unfold more8; split
  · omega
  · split
    · omega
    · split <;> omega
theorem step8_bd (s : List UInt8) (h : s ≠ []) : 1 ≤ (step8 s).2.1 ∧ (step8 s).2.1 ≤ 4 ∧ (step8 s).2.1 ≤ s.length := by
  cases s with
  | nil => exact absurd rfl h
  | cons b t =>
    rw [step8]; split
    · simp
    · split
      · simp
      · have := cont8_bd (more8 b.toNat) 1 (b.toNat % mod8 (more8 b.toNat)) (lo8 b.toNat) (hi8 b.toNat) t
        have := more8_le b.toNat
        simp; omega
/-- a step sees no more than its own bytes -/
theorem cont8_take : ∀ (m k v lo hi : Nat) (t : List UInt8) (j : Nat), (cont8 m k v lo hi t).2.1 ≤ k + j → cont8 m k v lo hi (t.take j) = cont8 m k v lo hi t := by
  intro m
  induction m with
  | zero => intro k v lo hi t j _; simp [cont8]
  | succ m ih =>
    intro k v lo hi t j h
    cases t with
    | nil => simp
    | cons x t =>
      cases j with
      | zero =>
        rw [List.take_zero, cont8]
        rw [cont8] at h ⊢
        split
        · rename_i hx
          rw [if_pos hx] at h
          have := cont8_bd m (k + 1) (64 * v + (x.toNat - 128)) 128 191 t
          omega
        · rfl
      | succ j =>
        rw [List.take_succ_cons, cont8, cont8]
        rw [cont8] at h
        split
        · rename_i hx
          rw [if_pos hx] at h
          exact ih _ _ _ _ _ _ (by omega)
        · rfl
theorem step8_take (s : List UInt8) (j : Nat) (h : (step8 s).2.1 ≤ j) (hj : 1 ≤ j) : step8 (s.take j) = step8 s := by
  cases s with
  | nil => simp
  | cons b t =>
    obtain ⟨i, rfl⟩ : ∃ i, j = i + 1 := ⟨j - 1, by omega⟩
    rw [List.take_succ_cons, step8, step8]
    rw [step8] at h
    split
    · rfl
    · rename_i h1
      rw [if_neg h1] at h
      split
      · rfl
      · rename_i h2
        rw [if_neg h2] at h
        exact cont8_take _ _ _ _ _ _ _ (by omega)
/-- what a step finds is a form -/
theorem step8_ok (s : List UInt8) (c n : Nat) (h : step8 s = (c, n, true)) : scalB (c : Int) = true ∧ form8 c = s.take n := by
  cases s with
  | nil => simp [step8] at h
  | cons b t =>
    have hb256 := b.toNat_lt
    rw [step8] at h
    split at h
    · rename_i h1
      simp only [Prod.mk.injEq] at h
      obtain ⟨rfl, rfl, _⟩ := h
      refine ⟨(scal_nat _).2 (by omega), ?_⟩
      rw [form8, if_pos h1]; simp
    · split at h
      · simp at h
      · rename_i h1 h2
        have hcase : (194 ≤ b.toNat ∧ b.toNat ≤ 223 ∧ more8 b.toNat = 1) ∨ (224 ≤ b.toNat ∧ b.toNat ≤ 239 ∧ more8 b.toNat = 2) ∨ (240 ≤ b.toNat ∧ b.toNat ≤ 244 ∧ more8 b.toNat = 3) := by
          unfold more8 at h2 ⊢
          by_cases g1 : 194 ≤ b.toNat ∧ b.toNat ≤ 223
          · left; rw [if_pos g1]; omega
          · rw [if_neg g1] at h2 ⊢
            by_cases g2 : 224 ≤ b.toNat ∧ b.toNat ≤ 239
            · right; left; rw [if_pos g2]; omega
            · rw [if_neg g2] at h2 ⊢
              by_cases g3 : 240 ≤ b.toNat ∧ b.toNat ≤ 244
              · right; right; rw [if_pos g3]; omega
              · rw [if_neg g3] at h2; omega
        rcases hcase with ⟨g1, g2, hm⟩ | ⟨g1, g2, hm⟩ | ⟨g1, g2, hm⟩
        · rw [hm] at h
          cases t with
          | nil => simp [cont8] at h
          | cons x t =>
            have hx256 := x.toNat_lt
            rw [cont8] at h
            split at h
            · rename_i hx
              rw [cont8] at h
              simp only [Prod.mk.injEq] at h
              obtain ⟨hc, rfl, _⟩ := h
              have hx1 : 128 ≤ x.toNat ∧ x.toNat ≤ 191 := by
                have e1 : lo8 b.toNat = 128 := by unfold lo8; rw [if_neg (by omega), if_neg (by omega)]
                have e2 : hi8 b.toNat = 191 := by unfold hi8; rw [if_neg (by omega), if_neg (by omega)]
                rw [e1, e2] at hx; exact hx
              simp only [mod8, if_true] at hc
              refine ⟨(scal_nat _).2 (by omega), ?_⟩
              rw [form8, if_neg (by omega), if_pos (by omega)]
              simp only [List.take_succ_cons, List.take_zero]
              rw [ofNat_of (b := b) (by omega), ofNat_of (b := x) (by omega)]
            · simp at h
        · rw [hm] at h
          cases t with
          | nil => simp [cont8] at h
          | cons x t =>
            have hx256 := x.toNat_lt
            rw [cont8] at h
            split at h
            · rename_i hx
              cases t with
              | nil => simp [cont8] at h
              | cons y t =>
                have hy256 := y.toNat_lt
                rw [cont8] at h
                split at h
                · rename_i hy
                  rw [cont8] at h
                  simp only [Prod.mk.injEq] at h
                  obtain ⟨hc, rfl, _⟩ := h
                  have hx1 : 128 ≤ x.toNat ∧ x.toNat ≤ 191 ∧ (b.toNat = 224 → 160 ≤ x.toNat) ∧ (b.toNat = 237 → x.toNat ≤ 159) := by
                    unfold lo8 hi8 at hx
                    by_cases q1 : b.toNat = 224
                    · rw [if_pos q1, if_neg (by omega), if_neg (by omega)] at hx; omega
                    · rw [if_neg q1, if_neg (by omega)] at hx
                      by_cases q2 : b.toNat = 237
                      · rw [if_pos q2] at hx; omega
                      · rw [if_neg q2, if_neg (by omega)] at hx; omega
                  simp only [mod8] at hc
                  simp at hc
                  obtain ⟨q1, q2, q3, q4⟩ := hx1
                  refine ⟨(scal_nat _).2 (by omega), ?_⟩
                  rw [form8, if_neg (by omega), if_neg (by omega), if_pos (by omega)]
                  simp only [List.take_succ_cons, List.take_zero]
                  rw [ofNat_of (b := b) (by omega), ofNat_of (b := x) (by omega), ofNat_of (b := y) (by omega)]
                · simp at h
            · simp at h
        · rw [hm] at h
          cases t with
          | nil => simp [cont8] at h
          | cons x t =>
            have hx256 := x.toNat_lt
            rw [cont8] at h
            split at h
            · rename_i hx
              cases t with
              | nil => simp [cont8] at h
              | cons y t =>
                have hy256 := y.toNat_lt
                rw [cont8] at h
                split at h
                · rename_i hy
                  cases t with
                  | nil => simp [cont8] at h
                  | cons z t =>
                    have hz256 := z.toNat_lt
                    rw [cont8] at h
                    split at h
                    · rename_i hz
                      rw [cont8] at h
                      simp only [Prod.mk.injEq] at h
                      obtain ⟨hc, rfl, _⟩ := h
                      have hx1 : 128 ≤ x.toNat ∧ x.toNat ≤ 191 ∧ (b.toNat = 240 → 144 ≤ x.toNat) ∧ (b.toNat = 244 → x.toNat ≤ 143) := by
                        unfold lo8 hi8 at hx
                        by_cases q1 : b.toNat = 240
                        · rw [if_neg (by omega), if_pos q1, if_neg (by omega), if_neg (by omega)] at hx; omega
                        · rw [if_neg (by omega), if_neg q1, if_neg (by omega)] at hx
                          by_cases q2 : b.toNat = 244
                          · rw [if_pos q2] at hx; omega
                          · rw [if_neg q2] at hx; omega
                      simp only [mod8] at hc
                      simp at hc
                      obtain ⟨q1, q2, q3, q4⟩ := hx1
                      refine ⟨(scal_nat _).2 (by omega), ?_⟩
                      rw [form8, if_neg (by omega), if_neg (by omega), if_neg (by omega)]
                      simp only [List.take_succ_cons, List.take_zero]
                      rw [ofNat_of (b := b) (by omega), ofNat_of (b := x) (by omega), ofNat_of (b := y) (by omega), ofNat_of (b := z) (by omega)]
                    · simp at h
                · simp at h
            · simp at h
def pre8 {α : Type} (xs : List α) : Except Nat (List α) → Except Nat (List α)
  | .error e => .error e
  | .ok ys => .ok (xs ++ ys)
theorem pre8_pre8 {α : Type} (xs ys : List α) (r : Except Nat (List α)) : pre8 xs (pre8 ys r) = pre8 (xs ++ ys) r := by
  cases r <;> simp [pre8]
theorem pre8_nil {α : Type} (r : Except Nat (List α)) : pre8 [] r = r := by cases r <;> simp [pre8]
theorem pre8_ok {α : Type} (xs ys : List α) : pre8 xs (.ok ys) = .ok (xs ++ ys) := rfl
/-- what Escape, Skip and Replace make of an element without a form -/
def lost8 (c p : Int) : List UInt8 := if p = 4 then [92, 117, 123] ++ hexB c ++ [125] else if p = 3 then [] else form8 65533
def enc8 (p : Int) : Nat → List Int → Except Nat (List UInt8)
  | _, [] => .ok []
  | i, c :: l => if scalB c = true then pre8 (form8 c.toNat) (enc8 p (i + 1) l) else if p = 1 then .error i else pre8 (lost8 c p) (enc8 p (i + 1) l)
def esc1 (b : UInt8) : List Int := [92, 120, ((dg (b.toNat / 16)).toNat : Int), ((dg (b.toNat % 16)).toNat : Int)]
def esc8 (l : List UInt8) : List Int := l.flatMap esc1
def ill8 (part : List UInt8) (p : Int) : List Int := if p = 4 then esc8 part else if p = 3 then [] else [65533]
def dec8 (p : Int) : Nat → Nat → List UInt8 → Except Nat (List Int)
  | 0, _, _ => .ok []
  | f + 1, i, s => if s = [] then .ok [] else
      if (step8 s).2.2 = true then pre8 [((step8 s).1 : Int)] (dec8 p f (i + (step8 s).2.1) (s.drop (step8 s).2.1))
      else if p = 1 then .error i else pre8 (ill8 (s.take (step8 s).2.1) p) (dec8 p f (i + (step8 s).2.1) (s.drop (step8 s).2.1))
theorem dec8_nil (p : Int) (f i : Nat) : dec8 p f i [] = .ok [] := by cases f <;> simp [dec8]
theorem dec8_ok {p : Int} {f i : Nat} {s : List UInt8} {c n : Nat} (hs : s ≠ []) (h : step8 s = (c, n, true)) : dec8 p (f + 1) i s = pre8 [(c : Int)] (dec8 p f (i + n) (s.drop n)) := by
  rw [dec8, if_neg hs, h]; rfl
theorem dec8_fail {f i : Nat} {s : List UInt8} {c n : Nat} (hs : s ≠ []) (h : step8 s = (c, n, false)) : dec8 1 (f + 1) i s = .error i := by
  rw [dec8, if_neg hs, h]; rfl
theorem dec8_ill {p : Int} {f i : Nat} {s : List UInt8} {c n : Nat} (hs : s ≠ []) (h : step8 s = (c, n, false)) (hp : p ≠ 1) : dec8 p (f + 1) i s = pre8 (ill8 (s.take n) p) (dec8 p f (i + n) (s.drop n)) := by
  rw [dec8, if_neg hs, h, if_neg (by simp), if_neg hp]
theorem drop_less {s : List UInt8} {f : Nat} (hs : s ≠ []) (h : s.length ≤ f + 1) : (s.drop (step8 s).2.1).length ≤ f := by
  have := step8_bd s hs
  rw [List.length_drop]; omega
/-- fuel and position do not matter -/
theorem dec8_fuel (p : Int) (hp : p ≠ 1) : ∀ (f g i j : Nat) (s : List UInt8), s.length ≤ f → s.length ≤ g → dec8 p f i s = dec8 p g j s := by
  intro f
  induction f with
  | zero => intro g i j s h _; obtain rfl : s = [] := List.eq_nil_of_length_eq_zero (by omega); rw [dec8_nil, dec8_nil]
  | succ f ih =>
    intro g i j s hf hg
    by_cases hs : s = []
    · subst hs; rw [dec8_nil, dec8_nil]
    · cases g with
      | zero => exact absurd (List.eq_nil_of_length_eq_zero (by omega)) hs
      | succ g =>
        have h1 := drop_less hs hf
        have h2 := drop_less hs hg
        rw [dec8, dec8, if_neg hs, if_neg hs, if_neg hp, if_neg hp]
        rw [ih g (i + (step8 s).2.1) (j + (step8 s).2.1) _ h1 h2]
/-- results are scalar values -/
theorem dg_lt : ∀ n : Fin 16, (dg n.val).toNat < 128 := by decide
theorem esc1_scal (b : UInt8) : ∀ c ∈ esc1 b, scalB c = true := by
  have hb := b.toNat_lt
  have h1 := dg_lt ⟨b.toNat / 16, by omega⟩
  have h2 := dg_lt ⟨b.toNat % 16, by omega⟩
  simp only at h1 h2
  intro c hc
  simp only [esc1, List.mem_cons, List.mem_nil_iff, or_false] at hc
  rcases hc with rfl | rfl | rfl | rfl
  · decide
  · decide
  · exact (scal_nat _).2 (by omega)
  · exact (scal_nat _).2 (by omega)
theorem ill8_scal (l : List UInt8) (p : Int) : ∀ c ∈ ill8 l p, scalB c = true := by
  unfold ill8
  split
  · intro c hc
    rw [esc8, List.mem_flatMap] at hc
    obtain ⟨b, _, hb⟩ := hc
    exact esc1_scal b c hb
  · split
    · simp
    · intro c hc; simp at hc; subst hc; decide
theorem dec8_other (p : Int) (hp : p ≠ 1) : ∀ (f i : Nat) (s : List UInt8), s.length ≤ f → ∃ l, dec8 p f i s = .ok l ∧ ∀ c ∈ l, scalB c = true := by
  intro f
  induction f with
  | zero => intro i s _; exact ⟨[], rfl, by simp⟩
  | succ f ih =>
    intro i s hf
    by_cases hs : s = []
    · exact ⟨[], by rw [hs, dec8_nil], by simp⟩
    · obtain ⟨⟨c, n, ok⟩, hst⟩ : ∃ x, step8 s = x := ⟨_, rfl⟩
      have h1 := drop_less hs hf
      rw [hst] at h1
      obtain ⟨l, hl, ha⟩ := ih (i + n) (s.drop n) h1
      cases ok with
      | true =>
        have hk := step8_ok s c n hst
        exact ⟨(c : Int) :: l, by rw [dec8_ok hs hst, hl]; rfl, by intro x hx; simp at hx; rcases hx with rfl | hx; exact hk.1; exact ha x hx⟩
      | false =>
        refine ⟨ill8 (s.take n) p ++ l, by rw [dec8_ill hs hst hp, hl]; rfl, ?_⟩
        intro x hx
        rcases List.mem_append.1 hx with hx | hx
        · exact ill8_scal _ _ x hx
        · exact ha x hx
/-- encoding of scalar values -/
def forms (l : List Int) : List UInt8 := l.flatMap fun c => form8 c.toNat
theorem enc8_all (p : Int) : ∀ (l : List Int) (i : Nat), (∀ c ∈ l, scalB c = true) → enc8 p i l = .ok (forms l) := by
  intro l
  induction l with
  | nil => intro i _; rfl
  | cons c l ih =>
    intro i h
    rw [enc8, if_pos (h c (by simp)), ih _ (fun x hx => h x (by simp [hx]))]
    rfl
theorem dec8_forms (p : Int) : ∀ (l : List Int) (f i : Nat), (∀ c ∈ l, scalB c = true) → (forms l).length ≤ f → dec8 p f i (forms l) = .ok l := by
  intro l
  induction l with
  | nil => intro f i _ _; exact dec8_nil _ _ _
  | cons c l ih =>
    intro f i h hf
    have hc := h c (by simp)
    obtain ⟨n, rfl⟩ := Int.eq_ofNat_of_zero_le (scal_pos hc).1
    have e : forms ((n : Int) :: l) = form8 n ++ forms l := by simp [forms]
    have hst := step_form n hc (forms l)
    have hl := form8_le n
    rw [e] at hf ⊢
    rw [List.length_append] at hf
    have hne : form8 n ++ forms l ≠ [] := by intro h0; rw [List.append_eq_nil_iff] at h0; rw [h0.1] at hl; simp at hl
    cases f with
    | zero => omega
    | succ f =>
      rw [dec8_ok hne hst, List.drop_left, ih f _ (fun x hx => h x (by simp [hx])) (by omega)]
      rfl
/-- Fail: the first fault, or the string is the forms of the result, whatever the policy -/
theorem dec8_strict : ∀ (f i : Nat) (s : List UInt8), s.length ≤ f →
    (∃ k, dec8 1 f i s = .error k ∧ i ≤ k ∧ k < i + s.length) ∨ (∃ l, s = forms l ∧ (∀ c ∈ l, scalB c = true) ∧ ∀ p, dec8 p f i s = .ok l) := by
  intro f
  induction f with
  | zero => intro i s h; obtain rfl : s = [] := List.eq_nil_of_length_eq_zero (by omega); exact .inr ⟨[], rfl, by simp, fun p => rfl⟩
  | succ f ih =>
    intro i s hf
    by_cases hs : s = []
    · subst hs; exact .inr ⟨[], rfl, by simp, fun p => dec8_nil _ _ _⟩
    · obtain ⟨⟨c, n, ok⟩, hst⟩ : ∃ x, step8 s = x := ⟨_, rfl⟩
      have h1 := drop_less hs hf
      have hbd := step8_bd s hs
      rw [hst] at h1 hbd
      simp only at hbd
      have hlen : 0 < s.length := by omega
      cases ok with
      | true =>
        have hk := step8_ok s c n hst
        rcases ih (i + n) (s.drop n) h1 with ⟨k, hk1, hk2, hk3⟩ | ⟨l, hl1, hl2, hl3⟩
        · left
          refine ⟨k, by rw [dec8_ok hs hst, hk1]; rfl, by omega, ?_⟩
          rw [List.length_drop] at hk3; omega
        · right
          refine ⟨(c : Int) :: l, ?_, ?_, fun p => ?_⟩
          · have e : forms ((c : Int) :: l) = form8 c ++ forms l := by simp [forms]
            rw [e, ← hl1, hk.2, List.take_append_drop]
          · intro x hx; simp at hx; rcases hx with rfl | hx; exact hk.1; exact hl2 x hx
          · rw [dec8_ok hs hst, hl3]; rfl
      | false => exact .inl ⟨i, dec8_fail hs hst, Nat.le_refl _, by omega⟩
theorem forms_len (l : List Int) : (forms l).length ≤ 4 * l.length ∧ l.length ≤ (forms l).length := by
  induction l with
  | nil => simp [forms]
  | cons c l ih =>
    have := form8_le c.toNat
    have e : forms (c :: l) = form8 c.toNat ++ forms l := by simp [forms]
    rw [e, List.length_append, List.length_cons]; omega
/-- a cut between steps -/
inductive Cut8 (s : List UInt8) : Nat → Prop
  | zero : Cut8 s 0
  | step {a : Nat} : Cut8 s a → a < s.length → Cut8 s (a + (step8 (s.drop a)).2.1)
theorem Cut8.le {s : List UInt8} {a : Nat} (h : Cut8 s a) : a ≤ s.length := by
  cases h with
  | zero => omega
  | step h1 h2 =>
    rename_i a
    have := step8_bd (s.drop a) (by intro e; have := congrArg List.length e; simp at this; omega)
    rw [List.length_drop] at this; omega
/-- from the front: the first step of a cut -/
theorem Cut8.front {s : List UInt8} {a : Nat} (h : Cut8 s a) (ha : 0 < a) : ∃ b, a = (step8 s).2.1 + b ∧ Cut8 (s.drop (step8 s).2.1) b ∧ s ≠ [] := by
  induction h with
  | zero => omega
  | step h1 h2 ih =>
    rename_i a
    rcases Nat.eq_zero_or_pos a with h0 | h0
    · subst h0
      exact ⟨0, by simp, .zero, by intro e; subst e; simp at h2⟩
    · obtain ⟨b, e, hb, hs⟩ := ih h0
      subst e
      refine ⟨b + (step8 ((s.drop (step8 s).2.1).drop b)).2.1, ?_, .step hb ?_, hs⟩
      · rw [List.drop_drop]; omega
      · rw [List.length_drop]; omega
theorem dec8_cut (p : Int) (hp : p ≠ 1) : ∀ (a : Nat) (s : List UInt8) (f g h i : Nat) (x y : List Int), Cut8 s a → s.length ≤ f → a ≤ g → s.length - a ≤ h →
    dec8 p g i (s.take a) = .ok x → dec8 p h i (s.drop a) = .ok y → dec8 p f i s = .ok (x ++ y) := by
  intro a
  induction a using Nat.strongRecOn with
  | ind a ih =>
    intro s f g h i x y hc hf hg hh hx hy
    rcases Nat.eq_zero_or_pos a with h0 | h0
    · subst h0
      rw [List.take_zero, dec8_nil] at hx
      rw [List.drop_zero] at hy
      injection hx with hx
      subst hx
      rw [dec8_fuel p hp f h i i s hf (by omega), hy]; rfl
    · obtain ⟨b, e, hb, hs⟩ := hc.front h0
      have hbd := step8_bd s hs
      have hle := hc.le
      have hta : s.take a ≠ [] := by intro e; have := congrArg List.length e; rw [List.length_take, List.length_nil] at this; omega
      have hst := step8_take s a (by omega) (by omega)
      cases f with
      | zero => omega
      | succ f =>
        cases g with
        | zero => omega
        | succ g =>
          obtain ⟨⟨c, n, ok⟩, hse⟩ : ∃ x, step8 s = x := ⟨_, rfl⟩
          rw [hse] at e hbd hst hb
          simp only at e hbd hb
          have hd : (s.take a).drop n = (s.drop n).take b := by rw [List.drop_take]; congr 1; omega
          have htt : (s.take a).take n = s.take n := by rw [List.take_take]; congr 1; omega
          have hdd : s.drop a = (s.drop n).drop b := by rw [List.drop_drop, e]
          cases ok with
          | true =>
            rw [dec8_ok hta hst, hd] at hx
            rw [dec8_ok hs hse]
            rw [hdd] at hy
            cases hr : dec8 p g (i + n) ((s.drop n).take b) with
            | error k => rw [hr] at hx; cases hx
            | ok x' =>
              rw [hr, pre8_ok] at hx
              injection hx with hx
              subst hx
              rw [dec8_fuel p hp h h i (i + n) _ (by rw [List.length_drop, List.length_drop]; omega) (by rw [List.length_drop, List.length_drop]; omega)] at hy
              rw [ih b (by omega) (s.drop n) f g h (i + n) x' y hb (by rw [List.length_drop]; omega) (by omega) (by rw [List.length_drop]; omega) hr hy, pre8_ok]
              simp
          | false =>
            rw [dec8_ill hta hst hp, hd, htt] at hx
            rw [dec8_ill hs hse hp]
            rw [hdd] at hy
            cases hr : dec8 p g (i + n) ((s.drop n).take b) with
            | error k => rw [hr] at hx; cases hx
            | ok x' =>
              rw [hr, pre8_ok] at hx
              injection hx with hx
              subst hx
              rw [dec8_fuel p hp h h i (i + n) _ (by rw [List.length_drop, List.length_drop]; omega) (by rw [List.length_drop, List.length_drop]; omega)] at hy
              rw [ih b (by omega) (s.drop n) f g h (i + n) x' y hb (by rw [List.length_drop]; omega) (by omega) (by rw [List.length_drop]; omega) hr hy, pre8_ok]
              simp
/-- lengths -/
theorem ill8_len (l : List UInt8) (p : Int) : (ill8 l p).length ≤ 4 * l.length + 1 := by
  unfold ill8
  split
  · induction l with
    | nil => simp [esc8]
    | cons b l ih => simp [esc8, esc1] at ih ⊢; omega
  · split <;> simp
theorem dec8_len (p : Int) : ∀ (f i : Nat) (s : List UInt8) (o : List Int), s.length ≤ f → dec8 p f i s = .ok o → o.length ≤ 5 * s.length := by
  intro f
  induction f with
  | zero => intro i s o _ h; rw [dec8] at h; injection h with h; subst h; simp
  | succ f ih =>
    intro i s o hf h
    by_cases hs : s = []
    · subst hs; rw [dec8_nil] at h; injection h with h; subst h; simp
    · obtain ⟨⟨c, n, ok⟩, hst⟩ : ∃ x, step8 s = x := ⟨_, rfl⟩
      have h1 := drop_less hs hf
      have hbd := step8_bd s hs
      rw [hst] at h1 hbd
      simp only at hbd h1
      cases ok with
      | true =>
        rw [dec8_ok hs hst] at h
        cases hr : dec8 p f (i + n) (s.drop n) with
        | error e => rw [hr] at h; cases h
        | ok o' =>
          rw [hr, pre8_ok] at h
          injection h with h
          subst h
          have := ih _ _ _ h1 hr
          rw [List.length_drop] at this
          simp; omega
      | false =>
        by_cases hp : p = 1
        · subst hp; rw [dec8_fail hs hst] at h; cases h
        · rw [dec8_ill hs hst hp] at h
          cases hr : dec8 p f (i + n) (s.drop n) with
          | error e => rw [hr] at h; cases h
          | ok o' =>
            rw [hr, pre8_ok] at h
            injection h with h
            subst h
            have := ih _ _ _ h1 hr
            rw [List.length_drop] at this
            have h2 := ill8_len (s.take n) p
            rw [List.length_take] at h2
            rw [List.length_append]; omega
def lexP : List UInt8 → List UInt8 → Prop
  | _, [] => False
  | [], _ :: _ => True
  | a :: x, b :: y => a.toNat < b.toNat ∨ (a.toNat = b.toNat ∧ lexP x y)
theorem less_iff : ∀ l m : List UInt8, Op.bytesLess l m = true ↔ lexP l m := by
  intro l
  induction l with
  | nil => intro m; cases m <;> simp [Op.bytesLess, lexP]
  | cons a l ih =>
    intro m
    cases m with
    | nil => simp [Op.bytesLess, lexP]
    | cons b m =>
      rw [Op.bytesLess, lexP, ← ih m, Bool.or_eq_true, Bool.and_eq_true, decide_eq_true_eq, UInt8.lt_iff_toNat_lt, beq_iff_eq, ← UInt8.toNat_inj]
theorem lexP_asymm : ∀ l m : List UInt8, lexP l m → ¬ lexP m l := by
  intro l
  induction l with
  | nil => intro m; cases m <;> simp [lexP]
  | cons a l ih =>
    intro m
    cases m with
    | nil => simp [lexP]
    | cons b m =>
      rw [lexP, lexP]
      rintro (h | ⟨h, h2⟩) (g | ⟨g, g2⟩)
      · omega
      · omega
      · omega
      · exact ih m h2 g2
theorem lexP_app (z x y : List UInt8) : lexP (z ++ x) (z ++ y) ↔ lexP x y := by
  induction z with
  | nil => rfl
  | cons a z ih => rw [List.cons_append, List.cons_append, lexP, ih]; simp
theorem lexP_form (c d : Nat) (x y : List UInt8) (h : c < d) (hd : d ≤ 1114111) : lexP (form8 c ++ x) (form8 d ++ y) := by
  have hx : ∀ n, n < 256 → (UInt8.ofNat n).toNat = n := ofNat_toNat
  unfold form8
  by_cases c1 : c < 128
  · rw [if_pos c1]
    by_cases d1 : d < 128
    · rw [if_pos d1]; left; rw [hx _ (by omega), hx _ (by omega)]; exact h
    · rw [if_neg d1]
      by_cases d2 : d < 2048
      · rw [if_pos d2]; left; rw [hx _ (by omega), hx _ (by omega)]; omega
      · rw [if_neg d2]
        by_cases d3 : d < 65536
        · rw [if_pos d3]; left; rw [hx _ (by omega), hx _ (by omega)]; omega
        · rw [if_neg d3]; left; rw [hx _ (by omega), hx _ (by omega)]; omega
  · rw [if_neg c1, if_neg (show ¬ d < 128 by omega)]
    by_cases c2 : c < 2048
    · rw [if_pos c2]
      by_cases d2 : d < 2048
      · rw [if_pos d2]
        simp only [List.cons_append, List.nil_append, lexP]
        rw [hx _ (by omega), hx _ (by omega), hx _ (by omega), hx _ (by omega)]
        by_cases q : c / 64 < d / 64
        · left; omega
        · right; exact ⟨by omega, .inl (by omega)⟩
      · rw [if_neg d2]
        by_cases d3 : d < 65536
        · rw [if_pos d3]; left; rw [hx _ (by omega), hx _ (by omega)]; omega
        · rw [if_neg d3]; left; rw [hx _ (by omega), hx _ (by omega)]; omega
    · rw [if_neg c2, if_neg (show ¬ d < 2048 by omega)]
      by_cases c3 : c < 65536
      · rw [if_pos c3]
        by_cases d3 : d < 65536
        · rw [if_pos d3]
          simp only [List.cons_append, List.nil_append, lexP]
          rw [hx _ (by omega), hx _ (by omega), hx _ (by omega), hx _ (by omega), hx _ (by omega), hx _ (by omega)]
          by_cases q : c / 4096 < d / 4096
          · left; omega
          · right
            refine ⟨by omega, ?_⟩
            by_cases q2 : c / 64 % 64 < d / 64 % 64
            · left; omega
            · right; exact ⟨by omega, .inl (by omega)⟩
        · rw [if_neg d3]; left; rw [hx _ (by omega), hx _ (by omega)]; omega
      · rw [if_neg c3, if_neg (show ¬ d < 65536 by omega)]
        simp only [List.cons_append, List.nil_append, lexP]
        rw [hx _ (by omega), hx _ (by omega), hx _ (by omega), hx _ (by omega), hx _ (by omega), hx _ (by omega), hx _ (by omega), hx _ (by omega)]
        by_cases q : c / 262144 < d / 262144
        · left; omega
        · right
          refine ⟨by omega, ?_⟩
          by_cases q1 : c / 4096 % 64 < d / 4096 % 64
          · left; omega
          · right
            refine ⟨by omega, ?_⟩
            by_cases q2 : c / 64 % 64 < d / 64 % 64
            · left; omega
            · right; exact ⟨by omega, .inl (by omega)⟩
theorem lexP_forms : ∀ (a b : List Int), (∀ c ∈ a, scalB c = true) → (∀ c ∈ b, scalB c = true) → (cmpL a b < 0 ↔ lexP (forms a) (forms b)) := by
  intro a
  induction a with
  | nil =>
    intro b _ _
    cases b with
    | nil => simp [cmpL, forms, lexP]
    | cons d b =>
      have := form8_le d.toNat
      have e : forms (d :: b) = form8 d.toNat ++ forms b := by simp [forms]
      rw [e]
      cases hf : form8 d.toNat with
      | nil => rw [hf] at this; simp at this
      | cons x t => simp [cmpL, forms, lexP]
  | cons c a ih =>
    intro b ha hb
    cases b with
    | nil =>
      have : cmpL (c :: a) [] = 1 := rfl
      rw [this]
      have e : forms ([] : List Int) = [] := rfl
      rw [e]
      cases forms (c :: a) <;> simp [lexP]
    | cons d b =>
      have hc := scal_pos (ha c (by simp))
      have hd := scal_pos (hb d (by simp))
      have e : forms (d :: b) = form8 d.toNat ++ forms b := by simp [forms]
      have e' : forms (c :: a) = form8 c.toNat ++ forms a := by simp [forms]
      rw [cmpL, e, e']
      by_cases h1 : c < d
      · rw [if_pos h1]
        exact ⟨fun _ => lexP_form _ _ _ _ (by omega) (by omega), fun _ => by omega⟩
      · rw [if_neg h1]
        by_cases h2 : d < c
        · rw [if_pos h2]
          exact ⟨fun h => by omega, fun h => absurd h (lexP_asymm _ _ (lexP_form _ _ _ _ (by omega) (by omega)))⟩
        · rw [if_neg h2]
          obtain rfl : c = d := by omega
          rw [lexP_app]
          exact ih b (fun x hx => ha x (by simp [hx])) (fun x hx => hb x (by simp [hx]))
theorem forms_inj (a b : List Int) (ha : ∀ c ∈ a, scalB c = true) (hb : ∀ c ∈ b, scalB c = true) (h : forms a = forms b) : a = b := by
  have h1 := dec8_forms 2 a (forms a).length 0 ha (Nat.le_refl _)
  have h2 := dec8_forms 2 b (forms b).length 0 hb (Nat.le_refl _)
  rw [h, h2] at h1
  injection h1 with h1
  exact h1.symm
theorem enc8_strict : ∀ (l : List Int) (i : Nat), (∃ k, enc8 1 i l = .error k) ∨ ((∀ c ∈ l, scalB c = true) ∧ enc8 1 i l = .ok (forms l)) := by
  intro l
  induction l with
  | nil => intro i; exact .inr ⟨by simp, rfl⟩
  | cons c l ih =>
    intro i
    by_cases hc : scalB c = true
    · rcases ih (i + 1) with ⟨k, hk⟩ | ⟨ha, hk⟩
      · exact .inl ⟨k, by rw [enc8, if_pos hc, hk]; rfl⟩
      · refine .inr ⟨?_, by rw [enc8, if_pos hc, hk]; rfl⟩
        intro x hx; simp at hx; rcases hx with rfl | hx; exact hc; exact ha x hx
    · exact .inl ⟨i, by rw [enc8, if_neg hc]; rfl⟩
theorem lost8_len (c p : Int) : (lost8 c p).length ≤ 10 := by
  unfold lost8; split
  · have := hexB_len c; simp; omega
  · split
    · simp
    · decide
theorem enc8_len (p : Int) : ∀ (l : List Int) (i : Nat) (o : List UInt8), enc8 p i l = .ok o → o.length ≤ 10 * l.length := by
  intro l
  induction l with
  | nil => intro i o h; rw [enc8] at h; injection h with h; subst h; simp
  | cons c l ih =>
    intro i o h
    rw [enc8] at h
    have step : ∀ xs : List UInt8, xs.length ≤ 10 → pre8 xs (enc8 p (i + 1) l) = .ok o → o.length ≤ 10 * (c :: l).length := by
      intro xs hx h
      cases hr : enc8 p (i + 1) l with
      | error e => rw [hr] at h; cases h
      | ok o' =>
        rw [hr, pre8_ok] at h
        injection h with h
        subst h
        have := ih _ _ hr
        simp; omega
    split at h
    · have := form8_le c.toNat
      exact step _ (by omega) h
    · split at h
      · cases h
      · exact step _ (lost8_len c p) h
end Go.Proofs.YtbcbmmgfdobdiaaDoor

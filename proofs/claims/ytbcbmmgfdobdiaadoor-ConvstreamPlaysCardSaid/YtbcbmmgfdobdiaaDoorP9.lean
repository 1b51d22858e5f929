/- Converting streams in plain Lean: the certain part, cuts that stay whatever follows, conversion over a cut; no program in sight. -/
import Derived.Test.YtbcbmmgfdobdiaaDoorP7
namespace Go.Proofs.YtbcbmmgfdobdiaaDoor
open Go.RowKit

theorem cont8_stay : ∀ (m k v lo hi : Nat) (t u : List UInt8), ((cont8 m k v lo hi t).2.2 = true ∨ (cont8 m k v lo hi t).2.1 ≠ k + t.length) → cont8 m k v lo hi (t ++ u) = cont8 m k v lo hi t := by
  intro m
  induction m with
  | zero => intro k v lo hi t u _; rfl
  | succ m ih =>
    intro k v lo hi t u h
    cases t with
    | nil => simp [cont8] at h
    | cons x t =>
      rw [List.cons_append, cont8, cont8]
      by_cases hx : lo ≤ x.toNat ∧ x.toNat ≤ hi
      · rw [if_pos hx, if_pos hx]
        rw [cont8, if_pos hx] at h
        exact ih _ _ _ _ t u (by rcases h with h | h; exact .inl h; right; simp at h; omega)
      · rw [if_neg hx, if_neg hx]
theorem cont8_not : ∀ (m k v lo hi : Nat) (t : List UInt8), (cont8 m k v lo hi t).2.2 = false → (cont8 m k v lo hi t).2.1 < k + m := by
  intro m
  induction m with
  | zero => intro k v lo hi t h; simp [cont8] at h
  | succ m ih =>
    intro k v lo hi t h
    cases t with
    | nil => simp [cont8]
    | cons x t =>
      rw [cont8] at h ⊢
      by_cases hx : lo ≤ x.toNat ∧ x.toNat ≤ hi
      · rw [if_pos hx] at h ⊢
        have := ih _ _ _ _ t h; omega
      · rw [if_neg hx]; simp
/-- the beginning of some form, or one byte of two: what follows decides -/
def unfK : Cd → List UInt8 → Bool
  | .u8, s => decide ((step8 s).2.1 = s.length) && (decide (194 ≤ (s.getD 0 0).toNat) && decide ((s.getD 0 0).toNat ≤ 244))
  | .u16 true, [_] => true
  | .u16 true, [a, _] => decide (216 ≤ a.toNat) && decide (a.toNat ≤ 219)
  | .u16 true, [a, _, c] => decide (216 ≤ a.toNat) && (decide (a.toNat ≤ 219) && (decide (220 ≤ c.toNat) && decide (c.toNat ≤ 223)))
  | .u16 false, [_] => true
  | .u16 false, [_, b] => decide (216 ≤ b.toNat) && decide (b.toNat ≤ 219)
  | .u16 false, [_, b, _] => decide (216 ≤ b.toNat) && decide (b.toNat ≤ 219)
  | _, _ => false
def goesK (K : Cd) (s : List UInt8) : Bool := (stepK K s).2.2 || !unfK K s
theorem goesK_false {K : Cd} {s : List UInt8} (h : goesK K s = false) : (stepK K s).2.2 = false ∧ unfK K s = true := by
  unfold goesK at h
  cases h1 : (stepK K s).2.2 <;> cases h2 : unfK K s <;> simp [h1, h2] at h ⊢
theorem step8_stay (s : List UInt8) (hs : s ≠ []) (h : (step8 s).2.2 = true ∨ unfK .u8 s = false) (u : List UInt8) : step8 (s ++ u) = step8 s := by
  cases s with
  | nil => exact absurd rfl hs
  | cons b t =>
    rw [List.cons_append, step8, step8]
    by_cases h1 : b.toNat < 128
    · rw [if_pos h1, if_pos h1]
    rw [if_neg h1, if_neg h1]
    by_cases h2 : more8 b.toNat = 0
    · rw [if_pos h2, if_pos h2]
    rw [if_neg h2, if_neg h2]
    have hst : step8 (b :: t) = cont8 (more8 b.toNat) 1 (b.toNat % mod8 (more8 b.toNat)) (lo8 b.toNat) (hi8 b.toNat) t := by rw [step8, if_neg h1, if_neg h2]
    refine cont8_stay _ _ _ _ _ t u ?_
    rcases h with h | h
    · left; rw [← hst]; exact h
    · right; rw [← hst]
      intro e
      have hb : 194 ≤ b.toNat ∧ b.toNat ≤ 244 := by
        unfold more8 at h2
        split at h2
        · omega
        · split at h2
          · omega
          · split at h2
            · omega
            · omega
      simp [unfK] at h
      have := h (by rw [e]; omega) hb.1
      omega
theorem step16_stay (big : Bool) (s : List UInt8) (hs : s ≠ []) (h : (step16 big s).2.2 = true ∨ unfK (.u16 big) s = false) (u : List UInt8) : step16 big (s ++ u) = step16 big s := by
  match s, hs with
  | [a], _ => cases big <;> simp [step16, unfK] at h
  | [a, b], _ =>
    have one : one16 (unit2 big a b) = (unit2 big a b, 2, true) ∨ ∀ v, two16 (unit2 big a b) v = one16 (unit2 big a b) := by
      cases hs : sur (unit2 big a b) with
      | false => left; exact one16_of hs
      | true =>
        right
        intro v
        have hh : ¬ unit2 big a b ≤ 56319 := by
          have h2 := sur_true.1 hs
          rcases h with h | h
          · rw [step16, one16_bad hs] at h; cases h
          · have ha := a.toNat_lt; have hb := b.toNat_lt
            cases big with
            | true => simp [unfK] at h; simp only [unit2, if_true] at h2 ⊢; omega
            | false => simp [unfK] at h; simp only [unit2, Bool.false_eq_true, if_false] at h2 ⊢; omega
        rw [two16, one16, if_pos hs, if_pos hs, if_neg (by omega)]
    rcases one with one | one
    · have hs : sur (unit2 big a b) = false := by
        unfold one16 at one
        cases hq : sur (unit2 big a b) with
        | false => rfl
        | true => rw [hq] at one; simp at one
      rw [List.cons_append, List.cons_append, List.nil_append, step16_pair big a b u hs, step16_pair big a b [] hs]
    · match u with
      | [] => rfl
      | [_] => rfl
      | c :: d :: u => exact one _
  | [a, b, c], _ =>
    cases hs : sur (unit2 big a b) with
    | false => rw [show ([a, b, c] ++ u : List UInt8) = a :: b :: (c :: u) from rfl, step16_pair big a b _ hs, step16_pair big a b _ hs]
    | true =>
      match u with
      | [] => rfl
      | d :: u =>
        have hh : ¬ (unit2 big a b ≤ 56319 ∧ 56320 ≤ unit2 big c d ∧ unit2 big c d ≤ 57343) := by
          have h2 := sur_true.1 hs
          rcases h with h | h
          · rw [step16, one16_bad hs] at h; cases h
          · have ha := a.toNat_lt; have hb := b.toNat_lt; have hc := c.toNat_lt; have hd := d.toNat_lt
            cases big with
            | true => simp [unfK] at h; simp only [unit2, if_true] at h2 ⊢; omega
            | false => simp [unfK] at h; simp only [unit2, Bool.false_eq_true, if_false] at h2 ⊢; omega
        show two16 (unit2 big a b) (unit2 big c d) = one16 (unit2 big a b)
        rw [two16, one16, if_pos hs, if_pos hs, if_neg hh]
  | a :: b :: c :: d :: t, _ => rfl
/-- what goes stays, whatever follows -/
theorem stepK_stay {K : Cd} {s : List UInt8} (hs : s ≠ []) (h : goesK K s = true) (u : List UInt8) : stepK K (s ++ u) = stepK K s := by
  have h' : (stepK K s).2.2 = true ∨ unfK K s = false := by
    unfold goesK at h
    cases h1 : (stepK K s).2.2 <;> cases h2 : unfK K s <;> simp [h1, h2] at h ⊢
  cases K with
  | u8 => exact step8_stay s hs h' u
  | u16 big => exact step16_stay big s hs h' u
  | one codes =>
    cases s with
    | nil => exact absurd rfl hs
    | cons b t => rfl
theorem unfK_short {K : Cd} {s : List UInt8} (h : goesK K s = false) : s.length ≤ 3 := by
  obtain ⟨h1, h2⟩ := goesK_false h
  cases K with
  | u8 =>
    cases s with
    | nil => simp
    | cons b t =>
      simp only [stepK] at h1
      rw [step8] at h1
      simp only [unfK, Bool.and_eq_true, decide_eq_true_eq] at h2
      rw [step8] at h2
      by_cases g1 : b.toNat < 128
      · rw [if_pos g1] at h1; cases h1
      rw [if_neg g1] at h1 h2
      by_cases g2 : more8 b.toNat = 0
      · rw [if_pos g2] at h2; have := h2.1; simp only at this; omega
      rw [if_neg g2] at h1 h2
      have := cont8_not _ _ _ _ _ _ h1
      have := more8_le b.toNat
      omega
  | u16 big =>
    match s, h2 with
    | [], _ => simp
    | [_], _ => simp
    | [_, _], _ => simp
    | [_, _, _], _ => simp
    | a :: b :: c :: d :: t, h2 => cases big <;> simp [unfK] at h2
  | one codes => simp [unfK] at h2
/-- the length of the certain part -/
def certK (K : Cd) : Nat → List UInt8 → Nat
  | 0, _ => 0
  | f + 1, s => if s = [] then 0 else if goesK K s = true then (stepK K s).2.1 + certK K f (s.drop (stepK K s).2.1) else 0
theorem certK_nil (K : Cd) (f : Nat) : certK K f [] = 0 := by cases f <;> simp [certK]
theorem certK_go {K : Cd} {f : Nat} {s : List UInt8} {c n : Nat} {b : Bool} (hs : s ≠ []) (h : stepK K s = (c, n, b)) (hg : goesK K s = true) : certK K (f + 1) s = n + certK K f (s.drop n) := by
  rw [certK, if_neg hs, if_pos hg, h]
theorem certK_stop {K : Cd} {f : Nat} {s : List UInt8} (hs : s ≠ []) (hg : goesK K s = false) : certK K (f + 1) s = 0 := by
  rw [certK, if_neg hs, if_neg (by rw [hg]; decide)]
theorem CutK.cons {K : Cd} {s : List UInt8} (hs : s ≠ []) {b : Nat} (h : CutK K (s.drop (stepK K s).2.1) b) : CutK K s ((stepK K s).2.1 + b) := by
  have hbd := stepK_bd K s hs
  induction h with
  | zero =>
    have := CutK.step (K := K) (s := s) (a := 0) .zero (by omega)
    rw [List.drop_zero, Nat.zero_add] at this
    exact this
  | step h1 h2 ih =>
    rename_i b
    rw [List.length_drop] at h2
    have := CutK.step ih (by omega)
    rw [← List.drop_drop] at this
    rw [← Nat.add_assoc]; exact this
theorem certK_le {K : Cd} : ∀ (f : Nat) (s : List UInt8), certK K f s ≤ s.length := by
  intro f
  induction f with
  | zero => intro s; simp [certK]
  | succ f ih =>
    intro s
    by_cases hs : s = []
    · subst hs; rw [certK_nil]; simp
    · rw [certK, if_neg hs]
      split
      · have hbd := stepK_bd K s hs
        have := ih (s.drop (stepK K s).2.1)
        rw [List.length_drop] at this; omega
      · omega
theorem certK_cut {K : Cd} : ∀ (f : Nat) (s t : List UInt8), CutK K (s ++ t) (certK K f s) := by
  intro f
  induction f with
  | zero => intro s t; exact .zero
  | succ f ih =>
    intro s t
    by_cases hs : s = []
    · subst hs; rw [certK_nil]; exact .zero
    · rw [certK, if_neg hs]
      split
      · rename_i hg
        have he := stepK_stay hs hg t
        have hbd := stepK_bd K s hs
        have := CutK.cons (K := K) (s := s ++ t) (by intro e; exact hs (List.append_eq_nil_iff.1 e).1) (b := certK K f (s.drop (stepK K s).2.1)) (by
          rw [he, List.drop_append_of_le_length hbd.2.2]; exact ih _ _)
        rw [he] at this; exact this
      · exact .zero
theorem certK_rest {K : Cd} : ∀ (f : Nat) (s : List UInt8), s.length ≤ f → (s.drop (certK K f s)).length ≤ 3 := by
  intro f
  induction f with
  | zero => intro s h; rw [List.length_drop]; omega
  | succ f ih =>
    intro s h
    by_cases hs : s = []
    · subst hs; simp
    · rw [certK, if_neg hs]
      split
      · rw [← List.drop_drop]; exact ih _ (drop_lessK hs h)
      · rename_i hg
        rw [List.drop_zero]; exact unfK_short (by simpa using hg)
theorem certK_one (codes : List Int) : ∀ (f : Nat) (s : List UInt8), s.length ≤ f → certK (.one codes) f s = s.length := by
  intro f
  induction f with
  | zero => intro s h; obtain rfl : s = [] := List.eq_nil_of_length_eq_zero (by omega); rfl
  | succ f ih =>
    intro s h
    cases s with
    | nil => rw [certK_nil]; rfl
    | cons b t =>
      have hn : (stepK (.one codes) (b :: t)).2.1 = 1 := by simp only [stepK, stepOne]; split <;> rfl
      rw [certK, if_neg (by simp), if_pos (by simp [goesK, unfK]), hn, List.drop_succ_cons, List.drop_zero, ih t (by simp at h; omega)]
      simp; omega
theorem CutK.pre {K : Cd} {s : List UInt8} {a j : Nat} (h : CutK K s a) : a ≤ j → CutK K (s.take j) a := by
  induction h with
  | zero => intro _; exact .zero
  | step h1 h2 ih =>
    rename_i a
    intro hj
    have hbd := stepK_bd K (s.drop a) (by intro e; have := congrArg List.length e; simp at this; omega)
    have he : stepK K ((s.take j).drop a) = stepK K (s.drop a) := by rw [List.drop_take]; exact stepK_take K _ _ (by omega) (by omega)
    have := CutK.step (ih (by omega)) (by rw [List.length_take]; omega)
    rw [he] at this; exact this
/-- a cut that stays, whatever follows -/
def SCut (K : Cd) (s : List UInt8) (a : Nat) : Prop := ∀ t, CutK K (s ++ t) a
theorem CutK.add {K : Cd} {s : List UInt8} {a b : Nat} (h : CutK K s a) (h' : CutK K (s.drop a) b) : CutK K s (a + b) := by
  have hle := h.le
  induction h' with
  | zero => exact h
  | step h1 h2 ih =>
    rename_i b
    rw [List.length_drop] at h2
    have := CutK.step ih (by omega)
    rw [← List.drop_drop] at this
    rw [← Nat.add_assoc]; exact this
theorem SCut.le {K : Cd} {s : List UInt8} {a : Nat} (h : SCut K s a) : a ≤ s.length := by have := (h []).le; simpa using this
theorem SCut.app {K : Cd} {s : List UInt8} {a : Nat} (h : SCut K s a) (t : List UInt8) : SCut K (s ++ t) a := fun u => by rw [List.append_assoc]; exact h _
theorem SCut.cert {K : Cd} {s : List UInt8} {a : Nat} (h : SCut K s a) (f : Nat) : SCut K s (a + certK K f (s.drop a)) := fun t => by
  refine (h t).add ?_
  rw [List.drop_append_of_le_length h.le]
  exact certK_cut f _ t
theorem scut_zero (K : Cd) (s : List UInt8) : SCut K s 0 := fun _ => .zero

/-- the strict conversion: fuel, position, cuts -/
def shiftS (j : Nat) : Except (Int × Nat) (List UInt8) → Except (Int × Nat) (List UInt8)
  | .error (e, i) => .error (e, j + i)
  | .ok y => .ok y
theorem shiftS_preS (j : Nat) (x : List UInt8) (r : Except (Int × Nat) (List UInt8)) : shiftS j (preS x r) = preS x (shiftS j r) := by cases r <;> rfl
theorem strictK_shift (K L : Cd) : ∀ (f i j : Nat) (s : List UInt8), strictK K L f (j + i) s = shiftS j (strictK K L f i s) := by
  intro f
  induction f with
  | zero => intro i j s; rfl
  | succ f ih =>
    intro i j s
    rw [strictK, strictK]
    by_cases hs : s = []
    · rw [if_pos hs, if_pos hs]; rfl
    · rw [if_neg hs, if_neg hs]
      by_cases ho : (stepK K s).2.2 = true
      · rw [if_pos ho, if_pos ho]
        cases formK L ((stepK K s).1 : Int) with
        | some x => simp only; rw [Nat.add_assoc, ih, shiftS_preS]
        | none => rfl
      · rw [if_neg ho, if_neg ho]; rfl
theorem strictK_fuel (K L : Cd) : ∀ (f g i : Nat) (s : List UInt8), s.length ≤ f → s.length ≤ g → strictK K L f i s = strictK K L g i s := by
  intro f
  induction f with
  | zero => intro g i s h _; obtain rfl : s = [] := List.eq_nil_of_length_eq_zero (by omega); rw [strictK_nil, strictK_nil]
  | succ f ih =>
    intro g i s hf hg
    by_cases hs : s = []
    · subst hs; rw [strictK_nil, strictK_nil]
    · cases g with
      | zero => exact absurd (List.eq_nil_of_length_eq_zero (by omega)) hs
      | succ g =>
        rw [strictK, strictK, if_neg hs, if_neg hs, ih g _ _ (drop_lessK (K := K) hs hf) (drop_lessK (K := K) hs hg)]
def joinS : Except (Int × Nat) (List UInt8) → Except (Int × Nat) (List UInt8) → Except (Int × Nat) (List UInt8)
  | .error e, _ => .error e
  | .ok x, r => preS x r
theorem joinS_preS (x : List UInt8) (r q : Except (Int × Nat) (List UInt8)) : joinS (preS x r) q = preS x (joinS r q) := by
  cases r with
  | error e => rfl
  | ok y => cases q <;> simp [joinS, preS]
theorem strictK_cut (K L : Cd) : ∀ (a : Nat) (s : List UInt8) (f g h i : Nat), CutK K s a → s.length ≤ f → a ≤ g → s.length - a ≤ h →
    strictK K L f i s = joinS (strictK K L g i (s.take a)) (strictK K L h (i + a) (s.drop a)) := by
  intro a
  induction a using Nat.strongRecOn with
  | ind a ih =>
    intro s f g h i hc hf hg hh
    rcases Nat.eq_zero_or_pos a with h0 | h0
    · subst h0
      rw [List.take_zero, strictK_nil, List.drop_zero, strictK_fuel K L f h i s hf (by omega)]
      simp only [joinS, Nat.add_zero]
      cases strictK K L h i s <;> rfl
    · obtain ⟨b, e, hb, hs⟩ := hc.front h0
      have hbd := stepK_bd K s hs
      have hle := hc.le
      have hta : s.take a ≠ [] := by intro e; have := congrArg List.length e; rw [List.length_take, List.length_nil] at this; omega
      have hst := stepK_take K s a (by omega) (by omega)
      cases f with
      | zero => omega
      | succ f =>
        cases g with
        | zero => omega
        | succ g =>
          obtain ⟨⟨c, n, ok⟩, hse⟩ : ∃ x, stepK K s = x := ⟨_, rfl⟩
          rw [hse] at e hbd hst hb
          simp only at e hbd hb
          have hd : (s.take a).drop n = (s.drop n).take b := by rw [List.drop_take]; congr 1; omega
          have hdd : s.drop a = (s.drop n).drop b := by rw [List.drop_drop, e]
          cases ok with
          | false => rw [strictK_ill hs hse, strictK_ill hta hst]; rfl
          | true =>
            cases hx : formK L (c : Int) with
            | none => rw [strictK_un hs hse hx, strictK_un hta hst hx]; rfl
            | some x =>
              rw [strictK_ok hs hse hx, strictK_ok hta hst hx, hd, joinS_preS, hdd, ih b (by omega) (s.drop n) f g h (i + n) hb (by rw [List.length_drop]; omega) (by omega) (by rw [List.length_drop]; omega)]
              rw [show i + n + b = i + a by omega]
theorem decK_other (K : Cd) (p : Int) (hp : p ≠ 1) : ∀ (f i : Nat) (s : List UInt8), ∃ l, decK K p f i s = .ok l := by
  intro f
  induction f with
  | zero => intro i s; exact ⟨[], rfl⟩
  | succ f ih =>
    intro i s
    by_cases hs : s = []
    · subst hs; exact ⟨[], decK_nil _ _ _ _⟩
    · rw [decK, if_neg hs, if_neg hp]
      obtain ⟨l, hl⟩ := ih (i + (stepK K s).2.1) (s.drop (stepK K s).2.1)
      rw [hl]
      split
      · exact ⟨_, rfl⟩
      · exact ⟨_, rfl⟩
/-- what converts strictly converts so with every policy -/
theorem strictK_all (K L : Cd) (p : Int) : ∀ (f i j : Nat) (s t : List UInt8), strictK K L f i s = .ok t → ∃ l, decK K p f i s = .ok l ∧ encK L p j l = .ok t := by
  intro f
  induction f with
  | zero => intro i j s t h; rw [strictK] at h; cases h; exact ⟨[], rfl, rfl⟩
  | succ f ih =>
    intro i j s t h
    by_cases hs : s = []
    · subst hs; rw [strictK_nil] at h; cases h; exact ⟨[], decK_nil _ _ _ _, rfl⟩
    · obtain ⟨⟨c, n, ok⟩, hse⟩ : ∃ x, stepK K s = x := ⟨_, rfl⟩
      cases ok with
      | false => rw [strictK_ill hs hse] at h; cases h
      | true =>
        cases hx : formK L (c : Int) with
        | none => rw [strictK_un hs hse hx] at h; cases h
        | some x =>
          rw [strictK_ok hs hse hx] at h
          cases hr : strictK K L f (i + n) (s.drop n) with
          | error e => rw [hr] at h; cases h
          | ok t' =>
            rw [hr] at h
            obtain rfl : x ++ t' = t := by simpa [preS] using h
            obtain ⟨l, hl, hl2⟩ := ih (i + n) (j + 1) _ _ hr
            exact ⟨(c : Int) :: l, by rw [decK_ok hs hse, hl]; rfl, by rw [encK_some hx, hl2]; rfl⟩
/-- Convert, every policy, encodings without an error -/
def decF (K : Cd) (p : Int) (s : List UInt8) : List Int := match decK K p s.length 0 s with
  | .ok l => l
  | .error _ => []
def encF (L : Cd) (p : Int) (l : List Int) : List UInt8 := match encK L p 0 l with
  | .ok l => l
  | .error _ => []
def convK (K L : Cd) (p : Int) (s : List UInt8) : Except (Int × Nat) (List UInt8) := if p = 1 then strictK K L s.length 0 s else .ok (encF L p (decF K p s))
theorem decF_eq {K : Cd} {p : Int} (hp : p ≠ 1) (s : List UInt8) : decK K p s.length 0 s = .ok (decF K p s) := by
  obtain ⟨l, hl⟩ := decK_other K p hp s.length 0 s
  rw [decF, hl]
theorem encF_eq {L : Cd} {p : Int} (hp : p ≠ 1) (l : List Int) : encK L p 0 l = .ok (encF L p l) := by
  obtain ⟨x, hx⟩ := encK_other L p hp l 0
  rw [encF, hx]
theorem convK_strict (K L : Cd) (s : List UInt8) : convK K L 1 s = strictK K L s.length 0 s := by rw [convK, if_pos rfl]
theorem convK_nil (K L : Cd) (p : Int) : convK K L p [] = .ok [] := by
  unfold convK
  split
  · exact strictK_nil _ _ _ _
  · rfl
theorem convK_cut (K L : Cd) (p : Int) (s : List UInt8) (a : Nat) (h : CutK K s a) : convK K L p s = joinS (convK K L p (s.take a)) (shiftS a (convK K L p (s.drop a))) := by
  have hle := h.le
  by_cases hp : p = 1
  · subst hp
    rw [convK_strict, convK_strict, convK_strict, strictK_cut K L a s s.length (s.take a).length (s.drop a).length 0 h (Nat.le_refl _) (by rw [List.length_take]; omega) (by rw [List.length_drop]; omega), Nat.zero_add]
    rw [show a = a + 0 from rfl, strictK_shift]; rfl
  · unfold convK
    rw [if_neg hp, if_neg hp, if_neg hp]
    have h1 := decK_cut K p hp a s s.length (s.take a).length (s.drop a).length 0 _ _ h (Nat.le_refl _) (by rw [List.length_take]; omega) (by rw [List.length_drop]; omega) (decF_eq hp _) (decF_eq hp _)
    rw [decF_eq hp] at h1
    injection h1 with h1
    have h2 := encK_app L p _ _ 0 0 _ _ (encF_eq hp (decF K p (s.take a))) (encF_eq hp (decF K p (s.drop a))) (.inl hp)
    rw [← h1, encF_eq hp] at h2
    injection h2 with h2
    rw [h2]; rfl
theorem convK_err {K L : Cd} {p : Int} {s : List UInt8} {e : Int} {i : Nat} (h : convK K L p s = .error (e, i)) : p = 1 := by
  unfold convK at h
  split at h
  · assumption
  · cases h
theorem convK_skip {K L : Cd} {s t : List UInt8} (p : Int) (h : convK K L 1 s = .ok t) : convK K L p s = .ok t := by
  by_cases hp : p = 1
  · subst hp; exact h
  · rw [convK_strict] at h
    obtain ⟨l, h1, h2⟩ := strictK_all K L p _ _ 0 _ _ h
    rw [decF_eq hp] at h1; injection h1 with h1
    rw [← h1, encF_eq hp] at h2; injection h2 with h2
    rw [convK, if_neg hp, h2]
theorem joinS_ok {r q : Except (Int × Nat) (List UInt8)} {x y : List UInt8} (h : r = .ok x) (h' : q = .ok y) : joinS r q = .ok (x ++ y) := by subst h h'; rfl
/-- what an open stream knows: the input so far, what was converted, what is left -/
def StInv (K L : Cd) (p : Int) (inp : List UInt8) (rest : List UInt8) (done : Nat) (out : List UInt8) : Prop :=
  done ≤ inp.length ∧ rest = inp.drop done ∧ SCut K inp done ∧ convK K L p (inp.take done) = .ok out
theorem stInv_zero (K L : Cd) (p : Int) : StInv K L p [] [] 0 [] := ⟨by simp, rfl, scut_zero K _, convK_nil K L p⟩
theorem stInv_write {K L : Cd} {p : Int} {inp rest out : List UInt8} {done : Nat} (h : StInv K L p inp rest done out) (b : List UInt8) (o : List UInt8) (n : Nat) (hn : certK K (rest ++ b).length (rest ++ b) = n)
    (ho : convK K L p ((rest ++ b).take n) = .ok o) : StInv K L p (inp ++ b) ((rest ++ b).drop n) (done + n) (out ++ o) := by
  obtain ⟨h1, h2, h3, h4⟩ := h
  have hd : (inp ++ b).drop done = rest ++ b := by rw [List.drop_append_of_le_length h1, h2]
  have hc := (h3.app b).cert (rest ++ b).length
  rw [hd, hn] at hc
  have hle := hc.le
  refine ⟨hle, by rw [← hd, List.drop_drop], hc, ?_⟩
  have hcut : CutK K ((inp ++ b).take (done + n)) done := (h3 b).pre (by omega)
  rw [convK_cut K L p _ done hcut]
  have e1 : ((inp ++ b).take (done + n)).take done = inp.take done := by rw [List.take_take, Nat.min_eq_left (by omega), List.take_append_of_le_length h1]
  have e2 : ((inp ++ b).take (done + n)).drop done = (rest ++ b).take n := by rw [List.drop_take, hd]; congr 1; omega
  rw [e1, e2, h4, ho]; rfl
theorem stInv_fault {K L : Cd} {p : Int} {inp rest out : List UInt8} {done : Nat} (h : StInv K L p inp rest done out) (b : List UInt8) (e : Int) (i n : Nat) (hn : certK K (rest ++ b).length (rest ++ b) = n)
    (ho : convK K L p ((rest ++ b).take n) = .error (e, i)) (t : List UInt8) : convK K L p (inp ++ b ++ t) = .error (e, done + i) := by
  obtain ⟨h1, h2, h3, h4⟩ := h
  have hle : n ≤ (rest ++ b).length := by rw [← hn]; exact certK_le _ _
  have hcut : CutK K (inp ++ b ++ t) done := by rw [List.append_assoc]; exact h3 _
  have hd : (inp ++ b ++ t).drop done = rest ++ b ++ t := by rw [List.append_assoc, List.drop_append_of_le_length h1, h2, List.append_assoc]
  have e1 : (inp ++ b ++ t).take done = inp.take done := by rw [List.append_assoc, List.take_append_of_le_length h1]
  have hc2 := certK_cut (K := K) (rest ++ b).length (rest ++ b) t
  rw [hn] at hc2
  rw [convK_cut K L p _ done hcut, hd, e1, h4, convK_cut K L p _ n hc2, List.take_append_of_le_length hle, ho]
  rfl
theorem stInv_close {K L : Cd} {p : Int} {inp rest out : List UInt8} {done : Nat} (h : StInv K L p inp rest done out) : convK K L p inp = preS out (shiftS done (convK K L p rest)) := by
  obtain ⟨h1, h2, h3, h4⟩ := h
  have hcut : CutK K inp done := by have := h3 []; rwa [List.append_nil] at this
  rw [convK_cut K L p _ done hcut, h4, h2]; rfl
theorem stInv_cut {K L : Cd} {p : Int} {inp rest out : List UInt8} {done : Nat} (h : StInv K L p inp rest done out) (t : List UInt8) : CutK K (inp ++ t) done ∧ convK K L p ((inp ++ t).take done) = .ok out :=
  ⟨h.2.2.1 t, by rw [List.take_append_of_le_length h.1]; exact h.2.2.2⟩
theorem stInv_len {K L : Cd} {p : Int} {inp rest out : List UInt8} {done : Nat} (h : StInv K L p inp rest done out) : rest.length + done = inp.length := by
  rw [h.2.1, List.length_drop]; have := h.1; omega
end Go.Proofs.YtbcbmmgfdobdiaaDoor

/- Plain mathematics of layer 15: numbers and lists as bytes. -/
namespace Go.Proofs.Img

/-- the folded number -/
def zig (n : Int) : Nat := if n < 0 then (-2 * n - 1).toNat else (2 * n).toNat
def unzig (u : Nat) : Int := if u % 2 = 1 then -((u / 2 : Nat) : Int) - 1 else ((u / 2 : Nat) : Int)

theorem unzig_zig (n : Int) : unzig (zig n) = n := by
  unfold unzig zig; split <;> split <;> omega
theorem zig_unzig (u : Nat) : zig (unzig u) = u := by
  unfold unzig zig; split <;> split <;> omega
theorem zig_lt (n : Int) (h1 : -9223372036854775808 ≤ n) (h2 : n ≤ 9223372036854775807) : zig n < 18446744073709551616 := by
  unfold zig; split <;> omega
theorem unzig_bd (u : Nat) (h : u < 18446744073709551616) : -9223372036854775808 ≤ unzig u ∧ unzig u ≤ 9223372036854775807 := by
  unfold unzig; split <;> omega

/-- groups of seven bits, the lowest first; fuel first -/
def vb : Nat → Nat → List UInt8
  | 0, u => [UInt8.ofNat u]
  | k + 1, u => if u < 128 then [UInt8.ofNat u] else UInt8.ofNat (128 + u % 128) :: vb k (u / 128)

def numB (n : Int) : List UInt8 := vb 9 (zig n)
def intsB (l : List Int) : List UInt8 := numB l.length ++ l.flatMap numB

/-- reading a number: i groups have been read, they give u -/
def rd : Nat → Nat → Nat → List UInt8 → Except Int (Nat × Nat)
  | 0, _, _, _ => .error 3
  | _ + 1, _, _, [] => .error 2
  | f + 1, i, u, b :: l =>
    if (i = 9 ∧ b.toNat ≠ 1) ∨ (0 < i ∧ b.toNat = 0) then .error 3
    else if b.toNat < 128 then .ok (u + b.toNat % 128 * 128 ^ i, i + 1)
    else rd f (i + 1) (u + b.toNat % 128 * 128 ^ i) l

def readN (l : List UInt8) : Except Int (Int × Nat) :=
  match rd 10 0 0 l with
  | .error e => .error e
  | .ok (u, k) => .ok (unzig u, k)

def rdMany : Nat → List UInt8 → Except Int (List Int × Nat)
  | 0, _ => .ok ([], 0)
  | n + 1, l =>
    match readN l with
    | .error e => .error e
    | .ok (x, k) =>
      match rdMany n (l.drop k) with
      | .error e => .error e
      | .ok (xs, m) => .ok (x :: xs, k + m)

def readL (l : List UInt8) : Except Int (List Int × Nat) :=
  match readN l with
  | .error e => .error e
  | .ok (n, k) =>
    if n < 0 ∨ n > (l.length : Int) - k then .error 1
    else
      match rdMany n.toNat (l.drop k) with
      | .error e => .error e
      | .ok (xs, m) => .ok (xs, k + m)


theorem toNat_ofNat (n : Nat) (h : n < 256) : (UInt8.ofNat n).toNat = n := by
  simp [Nat.mod_eq_of_lt h]
theorem ofNat_toNat (b : UInt8) : UInt8.ofNat b.toNat = b := by simp

theorem vb_ne (k u : Nat) : vb k u ≠ [] := by
  cases k <;> simp [vb]; split <;> simp
theorem vb_len (k u : Nat) : 1 ≤ (vb k u).length := by
  have := vb_ne k u
  cases h : vb k u <;> simp_all

theorem vb_lt {k v : Nat} (h : v < 128) : vb k v = [UInt8.ofNat v] := by
  cases k <;> simp [vb, h]

theorem rd_vb : ∀ (k i u v : Nat) (rest : List UInt8), k + i = 9 → v < 2 * 128 ^ k → (0 < i → 0 < v) →
    rd (k + 1) i u (vb k v ++ rest) = .ok (u + v * 128 ^ i, i + (vb k v).length) := by
  intro k
  induction k with
  | zero =>
    intro i u v rest hk hv hp
    have h1 : v = 1 := by have := hp (by omega); simp at hv; omega
    have h2 : i = 9 := by omega
    subst h1 h2
    simp [vb, rd]
  | succ k ih =>
    intro i u v rest hk hv hp
    by_cases h : v < 128
    · have hb := toNat_ofNat v (by omega)
      simp only [vb_lt h, List.cons_append, List.nil_append, rd, hb, List.length_cons, List.length_nil]
      rw [if_neg (by rintro (⟨a, _⟩ | ⟨a, b⟩) <;> first | omega | (have := hp a; omega)), if_pos h, Nat.mod_eq_of_lt h]
    · have hb := toNat_ofNat (128 + v % 128) (by omega)
      have e : vb (k + 1) v = UInt8.ofNat (128 + v % 128) :: vb k (v / 128) := by simp [vb, h]
      have hq : v / 128 < 2 * 128 ^ k := by rw [Nat.pow_succ] at hv; omega
      rw [e]
      simp only [List.cons_append, rd, hb, List.length_cons]
      rw [if_neg (by rintro (⟨a, _⟩ | ⟨a, b⟩) <;> omega), if_neg (by omega), ih (i + 1) _ (v / 128) rest (by omega) hq (by intro; omega)]
      have e2 : (128 + v % 128) % 128 = v % 128 := by omega
      have e3 : v * 128 ^ i = v % 128 * 128 ^ i + v / 128 * 128 ^ (i + 1) := by
        rw [Nat.pow_succ, Nat.mul_comm (128 ^ i) 128, ← Nat.mul_assoc, ← Nat.add_mul]; congr 1; omega
      rw [e2, e3]; simp only [Except.ok.injEq, Prod.mk.injEq]; omega

theorem rd_cut : ∀ (k i u v j : Nat), k + i = 9 → j < (vb k v).length → rd (k + 1) i u ((vb k v).take j) = .error 2 := by
  intro k
  induction k with
  | zero => intro i u v j hk hj; simp [vb] at hj; subst hj; simp [rd]
  | succ k ih =>
    intro i u v j hk hj
    cases j with
    | zero => simp [rd]
    | succ j =>
      by_cases h : v < 128
      · simp [vb_lt h] at hj
      · have hb := toNat_ofNat (128 + v % 128) (by omega)
        have e : vb (k + 1) v = UInt8.ofNat (128 + v % 128) :: vb k (v / 128) := by simp [vb, h]
        rw [e] at hj ⊢
        simp only [List.take_succ_cons, rd, hb]
        rw [if_neg (by rintro (⟨a, _⟩ | ⟨a, b⟩) <;> omega), if_neg (by omega)]
        exact ih (i + 1) _ (v / 128) j (by omega) (by simpa using hj)

theorem rd_min : ∀ (k i u : Nat) (l : List UInt8) (x m : Nat), k + i = 9 → rd (k + 1) i u l = .ok (x, m) →
    ∃ v, x = u + v * 128 ^ i ∧ v < 2 * 128 ^ k ∧ (0 < i → 0 < v) ∧ m = i + (vb k v).length ∧ vb k v = l.take (vb k v).length ∧ (vb k v).length ≤ l.length := by
  intro k
  induction k with
  | zero =>
    intro i u l x m hk h
    have h2 : i = 9 := by omega
    subst h2
    cases l with
    | nil => simp [rd] at h
    | cons b l =>
      simp only [rd] at h
      by_cases hb : b.toNat = 1
      · rw [if_neg (by omega), if_pos (by omega)] at h
        simp only [Except.ok.injEq, Prod.mk.injEq] at h
        have hb' : b = 1 := by rw [← ofNat_toNat b, hb]; rfl
        refine ⟨1, by omega, by omega, by omega, by simp [vb]; omega, by simp [vb, hb'], by simp [vb]⟩
      · rw [if_pos (.inl ⟨by trivial, hb⟩)] at h; cases h
  | succ k ih =>
    intro i u l x m hk h
    cases l with
    | nil => simp [rd] at h
    | cons b l =>
      have hlt : b.toNat < 256 := b.toNat_lt
      rw [rd] at h
      by_cases hc : (i = 9 ∧ b.toNat ≠ 1) ∨ (0 < i ∧ b.toNat = 0)
      · rw [if_pos hc] at h; cases h
      rw [if_neg hc] at h
      by_cases hb : b.toNat < 128
      · rw [if_pos hb] at h
        simp only [Except.ok.injEq, Prod.mk.injEq] at h
        have hp : 128 ^ (k + 1) = 128 * 128 ^ k := by rw [Nat.pow_succ, Nat.mul_comm]
        have hq : 0 < 128 ^ k := Nat.pow_pos (by omega)
        refine ⟨b.toNat, ?_, by omega, by omega, ?_, ?_, ?_⟩
        · rw [← h.1, Nat.mod_eq_of_lt hb]
        · simp [vb_lt hb]; omega
        · simp [vb_lt hb]
        · simp [vb_lt hb]
      · rw [if_neg hb] at h
        obtain ⟨v, h1, h2, h3, h4, h5, h6⟩ := ih (i + 1) _ l x m (by omega) h
        have hv := h3 (by omega)
        have hp : 128 ^ (k + 1) = 128 * 128 ^ k := by rw [Nat.pow_succ, Nat.mul_comm]
        have e : vb (k + 1) (b.toNat % 128 + 128 * v) = b :: vb k v := by
          have a1 : ¬ (b.toNat % 128 + 128 * v < 128) := by omega
          have a2 : (b.toNat % 128 + 128 * v) % 128 = b.toNat % 128 := by omega
          have a3 : (b.toNat % 128 + 128 * v) / 128 = v := by omega
          have a4 : 128 + b.toNat % 128 = b.toNat := by omega
          rw [vb, if_neg a1, a2, a3, a4, ofNat_toNat]
        refine ⟨b.toNat % 128 + 128 * v, ?_, by omega, by omega, ?_, ?_, ?_⟩
        · rw [h1, Nat.add_mul, Nat.pow_succ, Nat.mul_comm (128 ^ i) 128, ← Nat.mul_assoc, Nat.mul_comm v 128]; omega
        · rw [e]; simp; omega
        · rw [e]; simp only [List.length_cons, List.take_succ_cons]; rw [← h5]
        · rw [e]; simp; omega

theorem pow9 : 2 * 128 ^ 9 = 18446744073709551616 := by decide

def I64 (n : Int) : Prop := -9223372036854775808 ≤ n ∧ n ≤ 9223372036854775807

theorem readN_num (n : Int) (h : I64 n) (rest : List UInt8) : readN (numB n ++ rest) = .ok (n, (numB n).length) := by
  have := rd_vb 9 0 0 (zig n) rest (by omega) (by rw [pow9]; exact zig_lt n h.1 h.2) (by omega)
  unfold readN numB
  rw [this]; simp [unzig_zig]

theorem readN_cut (n : Int) (j : Nat) (h : j < (numB n).length) : readN ((numB n).take j) = .error 2 := by
  have := rd_cut 9 0 0 (zig n) j (by omega) h
  unfold readN; unfold numB; rw [this]

theorem readN_min {l : List UInt8} {x : Int} {m : Nat} (h : readN l = .ok (x, m)) : I64 x ∧ numB x = l.take m ∧ m ≤ l.length ∧ 1 ≤ m := by
  unfold readN at h
  split at h
  · cases h
  · rename_i u k hr
    obtain ⟨v, h1, h2, _, h4, h5, h6⟩ := rd_min 9 0 0 l u k (by omega) hr
    simp only [Except.ok.injEq, Prod.mk.injEq] at h
    obtain ⟨rfl, rfl⟩ := h
    rw [pow9] at h2
    have hu : u = v := by simpa using h1
    subst hu
    refine ⟨unzig_bd _ h2, ?_, by omega, by have := vb_len 9 u; omega⟩
    unfold numB; rw [zig_unzig, h4]; simpa using h5

theorem numB_len (n : Int) : 1 ≤ (numB n).length := vb_len _ _

theorem flat_len (xs : List Int) : xs.length ≤ (xs.flatMap numB).length := by
  induction xs with
  | nil => simp
  | cons x xs ih => simp only [List.flatMap_cons, List.length_append, List.length_cons]; have := numB_len x; omega

theorem rdMany_all : ∀ (xs : List Int) (rest : List UInt8), (∀ x ∈ xs, I64 x) → rdMany xs.length (xs.flatMap numB ++ rest) = .ok (xs, (xs.flatMap numB).length) := by
  intro xs
  induction xs with
  | nil => intro rest _; simp [rdMany]
  | cons x xs ih =>
    intro rest h
    simp only [List.flatMap_cons, List.length_cons, rdMany, List.append_assoc]
    rw [readN_num x (h x (by simp))]
    simp only [List.drop_left]
    rw [ih rest (fun y hy => h y (by simp [hy]))]
    simp

theorem rdMany_cut : ∀ (xs : List Int) (j : Nat), (∀ x ∈ xs, I64 x) → j < (xs.flatMap numB).length → rdMany xs.length ((xs.flatMap numB).take j) = .error 2 := by
  intro xs
  induction xs with
  | nil => intro j _ h; simp at h
  | cons x xs ih =>
    intro j h hj
    simp only [List.flatMap_cons, List.length_cons, rdMany]
    by_cases hlt : j < (numB x).length
    · rw [List.take_append_of_le_length (by omega), readN_cut x j hlt]
    · rw [List.take_append, List.take_of_length_le (by omega), readN_num x (h x (by simp))]
      simp only [List.drop_left]
      rw [ih (j - (numB x).length) (fun y hy => h y (by simp [hy])) (by simp only [List.flatMap_cons, List.length_append] at hj; omega)]

theorem rdMany_min : ∀ (n : Nat) (l : List UInt8) (xs : List Int) (m : Nat), rdMany n l = .ok (xs, m) →
    xs.length = n ∧ (∀ x ∈ xs, I64 x) ∧ xs.flatMap numB = l.take m ∧ m ≤ l.length := by
  intro n
  induction n with
  | zero => intro l xs m h; simp [rdMany] at h; obtain ⟨rfl, rfl⟩ := h; simp
  | succ n ih =>
    intro l xs m h
    rw [rdMany] at h
    split at h
    · cases h
    · rename_i x k hr
      split at h
      · cases h
      · rename_i ys q hm
        simp only [Except.ok.injEq, Prod.mk.injEq] at h
        obtain ⟨rfl, rfl⟩ := h
        obtain ⟨a1, a2, a3, a4⟩ := readN_min hr
        obtain ⟨b1, b2, b3, b4⟩ := ih _ _ _ hm
        simp only [List.length_drop] at b4
        refine ⟨by simp [b1], ?_, ?_, by omega⟩
        · intro y hy; rcases List.mem_cons.1 hy with rfl | hy; exact a1; exact b2 y hy
        · rw [List.flatMap_cons, a2, b3, List.take_add]

theorem readL_all (l : List Int) (rest : List UInt8) (h : ∀ x ∈ l, I64 x) (hl : l.length ≤ 1000000) : readL (intsB l ++ rest) = .ok (l, (intsB l).length) := by
  unfold readL intsB
  rw [List.append_assoc, readN_num _ ⟨by omega, by omega⟩]
  have := flat_len l
  simp only [List.length_append]
  rw [if_neg (by omega)]
  simp only [List.drop_left, Int.toNat_natCast]
  rw [rdMany_all l rest h]

theorem readL_cut (l : List Int) (j : Nat) (h : ∀ x ∈ l, I64 x) (hl : l.length ≤ 1000000) (hj : j < (intsB l).length) :
    readL ((intsB l).take j) = .error 2 ∨ readL ((intsB l).take j) = .error 1 := by
  unfold readL intsB
  by_cases hlt : j < (numB (l.length : Int)).length
  · rw [List.take_append_of_le_length (by omega), readN_cut _ j hlt]; exact .inl rfl
  · rw [List.take_append, List.take_of_length_le (by omega), readN_num _ ⟨by omega, by omega⟩]
    simp only
    split
    · exact .inr rfl
    · simp only [List.drop_left, Int.toNat_natCast]
      rw [rdMany_cut l _ h (by unfold intsB at hj; simp only [List.length_append] at hj; omega)]; exact .inl rfl

theorem readL_min {l : List UInt8} {xs : List Int} {m : Nat} (h : readL l = .ok (xs, m)) : (∀ x ∈ xs, I64 x) ∧ intsB xs = l.take m ∧ 1 ≤ m ∧ m ≤ l.length := by
  unfold readL at h
  split at h
  · cases h
  · rename_i n k hr
    split at h
    · cases h
    · rename_i hc
      split at h
      · cases h
      · rename_i ys q hm
        simp only [Except.ok.injEq, Prod.mk.injEq] at h
        obtain ⟨rfl, rfl⟩ := h
        obtain ⟨a1, a2, a3, a4⟩ := readN_min hr
        obtain ⟨b1, b2, b3, b4⟩ := rdMany_min _ _ _ _ hm
        simp only [List.length_drop] at b4
        refine ⟨b2, ?_, by omega, by omega⟩
        have e : (ys.length : Int) = n := by omega
        unfold intsB; rw [e, a2, b3, List.take_add]

end Go.Proofs.Img

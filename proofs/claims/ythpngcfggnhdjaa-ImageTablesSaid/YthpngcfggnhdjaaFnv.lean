import Derived.Test.YthpngcfggnhdjaaShut
namespace Go.Proofs.Ythpngcfggnhdjaa
open Go.RowKit Go.Proofs.Img

def stepN (x : Nat) (b : UInt8) : Nat := (x ^^^ b.toNat) * 16777619 % 4294967296
theorem stepN_lt (x : Nat) (b : UInt8) : stepN x b < 4294967296 := Nat.mod_lt _ (by omega)
theorem fnvI_nat (x : Nat) (hx : x < 4294967296) (b : UInt8) : fnvI (x : Int) b = (stepN x b : Int) := by
  have hb : b.toNat < 256 := b.toNat_lt
  unfold fnvI stepN
  have e : ((b.toNat : Int) % 4294967296) = (b.toNat : Int) := by omega
  rw [e, u32_xor_nat x b.toNat hx (by omega)]
  omega
theorem foldl_nat : ∀ (l : List UInt8) (x : Nat), x < 4294967296 → l.foldl fnvI (x : Int) = (l.foldl stepN x : Nat) := by
  intro l
  induction l with
  | nil => intro x _; rfl
  | cons b l ih => intro x hx; rw [List.foldl_cons, List.foldl_cons, fnvI_nat x hx b, ih _ (stepN_lt x b)]
theorem fnvN_fold (l : List UInt8) : fnvN l = l.foldl stepN 2166136261 := by
  have := foldl_nat l 2166136261 (by omega)
  unfold fnvN fnv
  rw [show (2166136261 : Int) = ((2166136261 : Nat) : Int) from rfl, this]; rfl

theorem mul_back (a : Nat) (ha : a < 4294967296) : a * 16777619 % 4294967296 * 899433627 % 4294967296 = a := by
  rw [Nat.mod_mul_mod, Nat.mul_assoc, show 16777619 * 899433627 = 1 + 4294967296 * 3513497 from by decide, Nat.mul_add, Nat.mul_one, ← Nat.mul_assoc, Nat.mul_comm a 4294967296, Nat.mul_assoc, Nat.add_mul_mod_self_left, Nat.mod_eq_of_lt ha]
theorem mul_inj {a b : Nat} (ha : a < 4294967296) (hb : b < 4294967296) (h : a * 16777619 % 4294967296 = b * 16777619 % 4294967296) : a = b := by
  rw [← mul_back a ha, ← mul_back b hb, h]
theorem xor_lt {x b : Nat} (hx : x < 4294967296) (hb : b < 256) : x ^^^ b < 4294967296 :=
  Nat.xor_lt_two_pow (n := 32) (by omega) (by omega)
theorem xor_left_inj {a b c : Nat} (h : a ^^^ b = a ^^^ c) : b = c := by
  have := congrArg (a ^^^ ·) h
  simpa [← Nat.xor_assoc] using this
theorem stepN_inj {x y : Nat} (hx : x < 4294967296) (hy : y < 4294967296) (b : UInt8) (h : stepN x b = stepN y b) : x = y := by
  have hb : b.toNat < 256 := b.toNat_lt
  have := mul_inj (xor_lt hx hb) (xor_lt hy hb) h
  rw [Nat.xor_comm x, Nat.xor_comm y] at this
  exact xor_left_inj this
theorem stepN_inj2 {x : Nat} (hx : x < 4294967296) {b c : UInt8} (h : stepN x b = stepN x c) : b = c := by
  have := mul_inj (xor_lt hx b.toNat_lt) (xor_lt hx c.toNat_lt) h
  exact UInt8.toNat_inj.1 (xor_left_inj this)
theorem foldl_lt : ∀ (l : List UInt8) (x : Nat), x < 4294967296 → l.foldl stepN x < 4294967296 := by
  intro l
  induction l with
  | nil => intro x h; exact h
  | cons b l ih => intro x _; exact ih _ (stepN_lt x b)
theorem foldl_inj : ∀ (l : List UInt8) (x y : Nat), x < 4294967296 → y < 4294967296 → l.foldl stepN x = l.foldl stepN y → x = y := by
  intro l
  induction l with
  | nil => intro x y _ _ h; exact h
  | cons b l ih => intro x y hx hy h; exact stepN_inj hx hy b (ih _ _ (stepN_lt x b) (stepN_lt y b) h)

theorem fnvN_set (l : List UInt8) (i : Nat) (hi : i < l.length) (c : UInt8) (hc : l[i] ≠ c) : fnvN (l.set i c) ≠ fnvN l := by
  intro h
  rw [fnvN_fold, fnvN_fold] at h
  have e1 : l.set i c = l.take i ++ c :: l.drop (i + 1) := List.set_eq_take_append_cons_drop .. |>.trans (by rw [if_pos hi])
  have e2 : l = l.take i ++ l[i] :: l.drop (i + 1) := by rw [List.getElem_cons_drop, List.take_append_drop]
  rw [e1] at h
  conv at h => rhs; rw [e2]
  rw [List.foldl_append, List.foldl_append, List.foldl_cons, List.foldl_cons] at h
  have hx := foldl_lt (l.take i) 2166136261 (by omega)
  have := foldl_inj _ _ _ (stepN_lt _ _) (stepN_lt _ _) h
  exact hc (stepN_inj2 hx this).symm

theorem fourB_inj {n m : Nat} (hn : n < 4294967296) (hm : m < 4294967296) (h : fourB n = fourB m) : n = m := by
  unfold fourB at h
  simp only [List.cons.injEq, and_true] at h
  obtain ⟨h1, h2, h3, h4⟩ := h
  have f : ∀ a b : Nat, a < 256 → b < 256 → UInt8.ofNat a = UInt8.ofNat b → a = b := fun a b ha hb e => by
    have := congrArg UInt8.toNat e
    rwa [toNat_ofNat a ha, toNat_ofNat b hb] at this
  have a1 := f _ _ (by omega) (by omega) h1
  have a2 := f _ _ (by omega) (by omega) h2
  have a3 := f _ _ (by omega) (by omega) h3
  have a4 := f _ _ (by omega) (by omega) h4
  omega

theorem open_changed (l : List UInt8) (k : Nat) (hk : k < (shutB l).length) (c : UInt8) (hc : (shutB l)[k] ≠ c) : openR ((shutB l).set k c) = ([], 14) := by
  have hlen : (shutB l).length = l.length + 4 := by simp [shutB, fourB]
  rw [openR, if_neg (by rw [List.length_set]; omega), if_neg]
  intro h
  by_cases hk4 : k < 4
  · have e : ((shutB l).set k c).drop 4 = l := by
      rw [List.drop_set_of_lt hk4]; simp [shutB, fourB]
    rw [e] at h
    have := congrArg (·[k]?) h
    simp only [List.getElem?_set_self hk, List.getElem?_eq_getElem hk] at this
    exact hc (by injection this)
  · have e : (shutB l).set k c = fourB (fnvN l) ++ l.set (k - 4) c := by
      unfold shutB
      rw [List.set_append_right _ _ (by simp [fourB]; omega)]
      simp [fourB]
    have e2 : ((shutB l).set k c).drop 4 = l.set (k - 4) c := by rw [e]; simp [fourB]
    rw [e2, e] at h
    have h4 : fourB (fnvN (l.set (k - 4) c)) = fourB (fnvN l) := List.append_cancel_right h
    have hk2 : k - 4 < l.length := by omega
    refine fnvN_set l (k - 4) hk2 c ?_ (fourB_inj (fnvN_lt _) (fnvN_lt _) h4)
    intro e3
    apply hc
    rw [← e3]
    have : (shutB l)[k]? = l[k - 4]? := by unfold shutB; rw [List.getElem?_append_right (by simp [fourB]; omega)]; simp [fourB]
    rw [List.getElem?_eq_getElem hk, List.getElem?_eq_getElem hk2] at this
    injection this
end Go.Proofs.Ythpngcfggnhdjaa

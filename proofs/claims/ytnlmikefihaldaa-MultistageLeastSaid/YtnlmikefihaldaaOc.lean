/- Runs: the plain law. -/
import Derived.Test.YtnlmikefihaldaaOb
import Derived.Test.YtnlmikefihaldaaMu
namespace Go.Proofs.Ytnlmikefihaldaa
open Go.RowKit

def rpv (x : Int × Int) : List Value := [.int .i64 x.1, .int .i64 x.2]
def pushR (a : List (Int × Int)) (y : Int × Int) : List (Int × Int) := match a.getLast? with
  | some z => if z.2 = y.2 then a.dropLast ++ [(z.1 + y.1, z.2)] else a ++ [y]
  | none => [y]
def joinL (a b : List (Int × Int)) : List (Int × Int) := b.foldl pushR a
def exL (r : List (Int × Int)) : List Int := r.flatMap fun y => List.replicate y.1.toNat y.2
structure RunsOK (r : List (Int × Int)) : Prop where
  pos : ∀ y ∈ r, 1 ≤ y.1
  apart : ∀ (i : Nat) y z, r[i]? = some y → r[i + 1]? = some z → y.2 ≠ z.2
theorem runsOK_nil : RunsOK [] := ⟨by simp, fun i y z h => by simp at h⟩
theorem runsOK_one (x : Int) : RunsOK [(1, x)] := ⟨by simp, fun i y z _ h => by simp at h⟩
theorem pushR_nil (y : Int × Int) : pushR [] y = [y] := rfl
theorem pushR_snoc (a : List (Int × Int)) (z y : Int × Int) : pushR (a ++ [z]) y = if z.2 = y.2 then a ++ [(z.1 + y.1, z.2)] else (a ++ [z]) ++ [y] := by
  unfold pushR
  rw [List.getLast?_concat, List.dropLast_concat]
theorem exL_append (a b : List (Int × Int)) : exL (a ++ b) = exL a ++ exL b := by simp [exL]
theorem exL_one (y : Int × Int) : exL [y] = List.replicate y.1.toNat y.2 := by simp [exL]
theorem getElem?_snoc_cases {α : Type} {a : List α} {z y : α} {i : Nat} (h : (a ++ [z])[i]? = some y) : (i < a.length ∧ a[i]? = some y) ∨ (i = a.length ∧ z = y) := by
  rcases Nat.lt_or_ge i a.length with h1 | h1
  · rw [List.getElem?_append_left h1] at h; exact .inl ⟨h1, h⟩
  · rw [List.getElem?_append_right h1] at h
    have : i - a.length < 1 := by have := (List.getElem?_eq_some_iff.1 h).1; simpa using this
    have e : i = a.length := by omega
    subst e
    rw [Nat.sub_self] at h
    exact .inr ⟨rfl, by simpa using h⟩
theorem pushR_ok {a : List (Int × Int)} {y : Int × Int} (h : RunsOK a) (hy : 1 ≤ y.1) : RunsOK (pushR a y) ∧ exL (pushR a y) = exL a ++ exL [y] := by
  rcases list_snoc a with rfl | ⟨a0, z, rfl⟩
  · exact ⟨⟨by simpa [pushR_nil] using hy, fun i u v _ h => by simp [pushR_nil] at h⟩, by simp [pushR_nil, exL]⟩
  · rw [pushR_snoc]
    have hz := h.pos z (by simp)
    by_cases hc : z.2 = y.2
    · rw [if_pos hc]
      refine ⟨⟨fun u hu => ?_, fun i u v hu hv => ?_⟩, ?_⟩
      · rw [List.mem_append] at hu
        rcases hu with hu | hu
        · exact h.pos u (by simp [hu])
        · simp at hu; subst hu; simp only; omega
      · rcases getElem?_snoc_cases hv with ⟨h1, h2⟩ | ⟨h1, h2⟩
        · rcases getElem?_snoc_cases hu with ⟨h3, h4⟩ | ⟨h3, h4⟩
          · exact h.apart i u v (by rw [List.getElem?_append_left h3]; exact h4) (by rw [List.getElem?_append_left h1]; exact h2)
          · omega
        · rcases getElem?_snoc_cases hu with ⟨h3, h4⟩ | ⟨h3, h4⟩
          · subst h2
            exact h.apart i u z (by rw [List.getElem?_append_left h3]; exact h4) (by rw [h1]; simp)
          · omega
      · rw [exL_append, exL_append, List.append_assoc, exL_one, exL_one, exL_one, hc, List.replicate_append_replicate]
        congr 2
        simp only
        omega
    · rw [if_neg hc]
      refine ⟨⟨fun u hu => ?_, fun i u v hu hv => ?_⟩, exL_append _ _⟩
      · rw [List.mem_append] at hu
        rcases hu with hu | hu
        · exact h.pos u hu
        · simp at hu; subst hu; exact hy
      · rcases getElem?_snoc_cases hv with ⟨h1, h2⟩ | ⟨h1, h2⟩
        · rcases getElem?_snoc_cases hu with ⟨h3, h4⟩ | ⟨h3, h4⟩
          · exact h.apart i u v h4 h2
          · omega
        · rcases getElem?_snoc_cases hu with ⟨h3, h4⟩ | ⟨h3, h4⟩
          · subst h2
            have e : i = a0.length := by simp at h1; omega
            subst e
            simp at h4
            subst h4
            exact hc
          · omega
theorem joinL_ok : ∀ (b : List (Int × Int)) {a : List (Int × Int)}, RunsOK a → (∀ y ∈ b, 1 ≤ y.1) → RunsOK (joinL a b) ∧ exL (joinL a b) = exL a ++ exL b
  | [], a, h, _ => ⟨h, by simp [joinL, exL]⟩
  | y :: b, a, h, hb => by
    obtain ⟨h1, h2⟩ := pushR_ok h (hb y (by simp))
    obtain ⟨h3, h4⟩ := joinL_ok b h1 (fun z hz => hb z (by simp [hz]))
    refine ⟨h3, ?_⟩
    show exL (joinL (pushR a y) b) = _
    rw [h4, h2, List.append_assoc, ← exL_append]
    rfl
theorem joinL_take {a b : List (Int × Int)} {i : Nat} {y : Int × Int} (h : b[i]? = some y) : joinL a (b.take (i + 1)) = pushR (joinL a (b.take i)) y := by
  unfold joinL
  rw [List.take_add_one, h, List.foldl_append]
  rfl
theorem exL_len_mem : ∀ {r : List (Int × Int)} {y : Int × Int}, y ∈ r → y.1.toNat ≤ (exL r).length
  | x :: r, y, h => by
    have e : exL (x :: r) = exL [x] ++ exL r := by rw [← exL_append]; rfl
    rw [e, List.length_append, exL_one, List.length_replicate]
    rcases List.mem_cons.1 h with h | h
    · subst h; omega
    · have := exL_len_mem h; omega
theorem exL_len : ∀ {r : List (Int × Int)}, (∀ y ∈ r, 1 ≤ y.1) → r.length ≤ (exL r).length
  | [], _ => by simp [exL]
  | x :: r, h => by
    have e : exL (x :: r) = exL [x] ++ exL r := by rw [← exL_append]; rfl
    rw [e, List.length_append, exL_one, List.length_replicate, List.length_cons]
    have := exL_len (r := r) (fun y hy => h y (by simp [hy]))
    have := h x (by simp)
    omega
theorem exL_take {r : List (Int × Int)} (i : Nat) : (exL (r.take i)).length ≤ (exL r).length := by
  have e : exL r = exL (r.take i) ++ exL (r.drop i) := by rw [← exL_append, List.take_append_drop]
  rw [e, List.length_append]; omega
/-- r says what F says of 0 .. m-1 -/
def RunsOf (r : List (Int × Int)) (F : Nat → Int) (m : Nat) : Prop := RunsOK r ∧ exL r = (List.range m).map F
theorem RunsOf.len {r : List (Int × Int)} {F : Nat → Int} {m : Nat} (h : RunsOf r F m) : (exL r).length = m := by rw [h.2]; simp
theorem runsOf_nil (F : Nat → Int) : RunsOf [] F 0 := ⟨runsOK_nil, rfl⟩
theorem runsOf_one {F : Nat → Int} {x : Int} (h : F 0 = x) : RunsOf [(1, x)] F 1 := ⟨runsOK_one x, by simp [exL, h]⟩
theorem runsOf_join {a r : List (Int × Int)} {F G : Nat → Int} {n m : Nat} (ha : RunsOf a F n) (hr : RunsOf r G m) (hF : ∀ o, o < m → F (n + o) = G o) : RunsOf (joinL a r) F (n + m) := by
  obtain ⟨h1, h2⟩ := joinL_ok r ha.1 hr.1.pos
  refine ⟨h1, ?_⟩
  rw [h2, ha.2, hr.2, List.range_add, List.map_append, List.map_map]
  congr 1
  apply List.map_congr_left
  intro o ho
  exact (hF o (List.mem_range.1 ho)).symm

/-- which blocks are reached -/
def reachP (ws : List Int) (ss : List (List Int)) : Nat → Nat → Prop
  | 0, i => i = 0
  | s + 1, x => ∃ p : Nat, p < (stg ss s).length ∧ reachP ws ss s (p / nS ws ss s) ∧ (stg ss s).getD p 0 = (x : Int)
/-- what a block of a stage says, and how many code points it is of -/
def sF (ws : List Int) (ss : List (List Int)) : Nat → Nat → Nat → Int
  | 0, _ => look ws ss
  | k + 1, i => ex ws ss (ws.length - 1 - k) k i
def sN (ws : List Int) : Nat → Nat
  | 0 => 1114112
  | k + 1 => 2 ^ bel ws k
theorem sN_le {ws : List Int} (h : okW ws) (s : Nat) : 0 < sN ws s ∧ sN ws s ≤ 1114112 := by
  cases s with
  | zero => exact ⟨by show 0 < 1114112; omega, Nat.le_refl _⟩
  | succ k => exact ⟨Nat.two_pow_pos _, Nat.le_trans (Nat.pow_le_pow_right (by decide) (bel_le h k)) (by decide)⟩
theorem sF_last {ws : List Int} {ss : List (List Int)} (h : okW ws) {s : Nat} (hs : s = ws.length) (i p : Nat) : sF ws ss s i p = (stg ss s).getD (i * nS ws ss s + p) 0 := by
  cases s with
  | zero => have := h.1; omega
  | succ k => exact ex_last hs
theorem sN_last {ws : List Int} (ss : List (List Int)) (h : okW ws) {s : Nat} (hs : s = ws.length) : sN ws s = nS ws ss s := by
  cases s with
  | zero => have := h.1; omega
  | succ k =>
    show 2 ^ bel ws k = nb ws k
    rw [nb_bel h (by omega), bel_end (by omega)]
    simp
theorem sN_more {ws : List Int} {ss : List (List Int)} (h : formedT ws ss) {s : Nat} (hs : s < ws.length) : sN ws s = nS ws ss s * sN ws (s + 1) := by
  cases s with
  | zero =>
    show 1114112 = (stg ss 0).length * 2 ^ bel ws 0
    rw [h.2.2.1, bel_zero]
    have h9 := h.1.2.2.2
    obtain ⟨t, ht⟩ : ∃ t, t = ws.sum.toNat := ⟨_, rfl⟩
    rw [← ht]
    have : t ≤ 16 := by omega
    rw [Nat.div_mul_cancel]
    exact Nat.dvd_trans (Nat.pow_dvd_pow 2 this) (by decide)
  | succ k => exact nb_bel h.1 (by omega)
theorem sF_more {ws : List Int} {ss : List (List Int)} {s : Nat} (hs : s < ws.length) {i p o : Nat} (hi : i < cntS ws ss s) (ho : o < sN ws (s + 1)) :
    sF ws ss s i (p * sN ws (s + 1) + o) = sF ws ss (s + 1) ((stg ss s).getD (i * nS ws ss s + p) 0).toNat o := by
  cases s with
  | zero =>
    have hi0 : i = 0 := by simp [cntS] at hi; exact hi
    subst hi0
    show look ws ss (p * 2 ^ bel ws 0 + o) = ex ws ss (ws.length - 1 - 0) 0 ((stg ss 0).getD (0 * _ + p) 0).toNat o
    have ho' : o < 2 ^ bel ws 0 := ho
    unfold look
    rw [Nat.mul_comm p, Nat.mul_add_div (Nat.two_pow_pos _), Nat.mul_add_mod, Nat.div_eq_of_lt ho', Nat.mod_eq_of_lt ho', Nat.zero_mul, Nat.zero_add, Nat.add_zero, Nat.sub_zero]
  | succ k => exact ex_more (by omega) ho
end Go.Proofs.Ytnlmikefihaldaa

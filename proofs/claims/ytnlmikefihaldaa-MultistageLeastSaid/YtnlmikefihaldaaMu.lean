/- Tables in plain Lean: a canonical table is the only one with its widths and its values, and no formed table of the same values is smaller. -/
import Derived.Test.YtnlmikefihaldaaMd
namespace Go.Proofs.Ytnlmikefihaldaa
open Go.RowKit

theorem scan_uniq {β : Type} (G H : Nat → β) : ∀ {a b : List Int} {e c d : Nat}, a.length = b.length → scan e a = some c → scan e b = some d →
    (∀ i j, i < c → j < c → G i = G j → i = j) → (∀ i j, i < d → j < d → H i = H j → i = j) → (∀ i, i < e → G i = H i) →
    (∀ (t : Nat) (x y : Int), a[t]? = some x → b[t]? = some y → G x.toNat = H y.toNat) → a = b
  | [], [], _, _, _, _, _, _, _, _, _, _ => rfl
  | [], _ :: _, _, _, _, hl, _, _, _, _, _, _ => by simp at hl
  | _ :: _, [], _, _, _, hl, _, _, _, _, _, _ => by simp at hl
  | x :: a, y :: b, e, c, d, hl, hc, hd, gi, hi, he, hv => by
    have hx := scan_range hc x (by simp)
    have hy := scan_range hd y (by simp)
    have h0 := hv 0 x y rfl rfl
    rw [scan] at hc hd
    split at hc
    · cases hc
    rename_i hxe
    split at hd
    · cases hd
    rename_i hye
    have hec := scan_ge hc
    have hed := scan_ge hd
    have hl' : a.length = b.length := by simpa using hl
    have hv' : ∀ (t : Nat) (x y : Int), a[t]? = some x → b[t]? = some y → G x.toNat = H y.toNat := fun t u v hu hw => hv (t + 1) u v (by simpa using hu) (by simpa using hw)
    by_cases q1 : x = (e : Int)
    · by_cases q2 : y = (e : Int)
      · rw [if_pos q1] at hc
        rw [if_pos q2] at hd
        rw [q1, q2] at h0
        rw [q1, q2, scan_uniq G H hl' hc hd gi hi (fun i hi' => by
          rcases Nat.lt_or_eq_of_le (Nat.le_of_lt_succ hi') with h1 | h1
          · exact he i h1
          · subst h1; simpa using h0) hv']
      · exfalso
        have h1 := he y.toNat (by omega)
        rw [← h1] at h0
        have := gi _ _ (by omega) (by rw [if_pos q1] at hec; omega) h0
        omega
    · rw [if_neg q1] at hc hec
      have h1 := he x.toNat (by omega)
      rw [h1] at h0
      have h2 := hi _ _ (by split at hed <;> omega) (by omega) h0
      have hxy : x = y := by omega
      have q2 : ¬ y = (e : Int) := by omega
      rw [if_neg q2] at hd
      rw [hxy, scan_uniq G H hl' hc hd gi hi he hv']
theorem scan_onto : ∀ {a : List Int} {e c : Nat}, scan e a = some c → ∀ i, e ≤ i → i < c → ∃ t : Nat, a[t]? = some (i : Int)
  | [], e, c, h, i, h1, h2 => by simp [scan] at h; omega
  | x :: a, e, c, h, i, h1, h2 => by
    rw [scan] at h
    split at h
    · cases h
    by_cases q : x = (e : Int)
    · rw [if_pos q] at h
      rcases Nat.eq_or_lt_of_le h1 with h3 | h3
      · exact ⟨0, by rw [← h3, q]; rfl⟩
      · obtain ⟨t, ht⟩ := scan_onto h i h3 h2
        exact ⟨t + 1, by simpa using ht⟩
    · rw [if_neg q] at h
      obtain ⟨t, ht⟩ := scan_onto h i h1 h2
      exact ⟨t + 1, by simpa using ht⟩

/-- what block i of stage k + 1 stands for -/
def bf (ws : List Int) (ss : List (List Int)) (k i : Nat) : Nat → Int := fun o => if o < 2 ^ bel ws k then ex ws ss (ws.length - 1 - k) k i o else 0
theorem bf_of {ws : List Int} {ss ss' : List (List Int)} {k i j : Nat} (h : bf ws ss k i = bf ws ss' k j) {o : Nat} (ho : o < 2 ^ bel ws k) : ex ws ss (ws.length - 1 - k) k i o = ex ws ss' (ws.length - 1 - k) k j o := by
  have := congrFun h o
  unfold bf at this
  rw [if_pos ho, if_pos ho] at this
  exact this
theorem bf_to {ws : List Int} {ss ss' : List (List Int)} {k i j : Nat} (h : ∀ o, o < 2 ^ bel ws k → ex ws ss (ws.length - 1 - k) k i o = ex ws ss' (ws.length - 1 - k) k j o) : bf ws ss k i = bf ws ss' k j := by
  funext o
  unfold bf
  by_cases ho : o < 2 ^ bel ws k
  · rw [if_pos ho, if_pos ho, h o ho]
  · rw [if_neg ho, if_neg ho]
/-- a block's value at an offset, by the stage below -/
theorem ex_last {ws : List Int} {ss : List (List Int)} {k i o : Nat} (hk : k + 1 = ws.length) : ex ws ss (ws.length - 1 - k) k i o = (stg ss (k + 1)).getD (i * nb ws k + o) 0 := by
  rw [show ws.length - 1 - k = 0 by omega, ex]
theorem ex_more {ws : List Int} {ss : List (List Int)} {k i t o : Nat} (hk : k + 1 < ws.length) (ho : o < 2 ^ bel ws (k + 1)) : ex ws ss (ws.length - 1 - k) k i (t * 2 ^ bel ws (k + 1) + o) = ex ws ss (ws.length - 1 - (k + 1)) (k + 1) ((stg ss (k + 1)).getD (i * nb ws k + t) 0).toNat o := by
  have hp := Nat.two_pow_pos (bel ws (k + 1))
  rw [show ws.length - 1 - k = (ws.length - 1 - (k + 1)) + 1 by omega, ex]
  rw [show (t * 2 ^ bel ws (k + 1) + o) / 2 ^ bel ws (k + 1) = t by rw [Nat.mul_comm, Nat.mul_add_div hp, Nat.div_eq_of_lt ho, Nat.add_zero], Nat.mul_comm t, Nat.mul_add_mod, Nat.mod_eq_of_lt ho]
theorem off_in {ws : List Int} (hw : okW ws) {k t o : Nat} (hk : k < ws.length) (ht : t < nb ws k) (ho : o < 2 ^ bel ws (k + 1)) : t * 2 ^ bel ws (k + 1) + o < 2 ^ bel ws k := by
  rw [nb_bel hw hk]
  have : (t + 1) * 2 ^ bel ws (k + 1) ≤ nb ws k * 2 ^ bel ws (k + 1) := Nat.mul_le_mul_right _ ht
  rw [Nat.succ_mul] at this
  omega
/-- equal blocks: their numbers stand for the same -/
theorem bf_ent {ws : List Int} (hw : okW ws) {ss ss' : List (List Int)} {k i j t : Nat} (hk : k + 1 < ws.length) (h : bf ws ss k i = bf ws ss' k j) (ht : t < nb ws k) :
    bf ws ss (k + 1) ((stg ss (k + 1)).getD (i * nb ws k + t) 0).toNat = bf ws ss' (k + 1) ((stg ss' (k + 1)).getD (j * nb ws k + t) 0).toNat :=
  bf_to fun o ho => by
    have := bf_of h (off_in hw (by omega) ht ho)
    rw [ex_more hk ho, ex_more hk ho] at this
    exact this
theorem bf_val {ws : List Int} (hw : okW ws) {ss ss' : List (List Int)} {k i j t : Nat} (hk : k + 1 = ws.length) (h : bf ws ss k i = bf ws ss' k j) (ht : t < nb ws k) :
    (stg ss (k + 1)).getD (i * nb ws k + t) 0 = (stg ss' (k + 1)).getD (j * nb ws k + t) 0 := by
  have hb : bel ws (k + 1) = 0 := bel_end (by omega)
  have hn := nb_bel hw (k := k) (by omega)
  rw [hb, Nat.pow_zero, Nat.mul_one] at hn
  have := bf_of h (o := t) (by rw [hn]; exact ht)
  rw [ex_last hk, ex_last hk] at this
  exact this
theorem ok_cnt {ws : List Int} {ss : List (List Int)} (h : okT ws ss) {k : Nat} (hk : k < ws.length) : scan 0 (stg ss k) = some (cnt ws ss k) ∧ (stg ss (k + 1)).length = cnt ws ss k * nb ws k ∧ apart (stg ss (k + 1)) (nb ws k) (cnt ws ss k) := by
  obtain ⟨c, h1, h2, h3⟩ := h.2.2.2 k hk
  have e : cnt ws ss k = c := by unfold cnt nb; rw [h2, Nat.mul_div_cancel _ (Nat.two_pow_pos _)]
  rw [e]; exact ⟨h1, h2, h3⟩
theorem blk_getD {l : List Int} {n i t : Nat} (ht : t < n) : (blk l n i).getD t 0 = l.getD (i * n + t) 0 := by
  simp [blk, List.getD, ht, List.getElem?_drop]
theorem list_eq_getD {a b : List Int} (hl : a.length = b.length) (h : ∀ t, t < a.length → a.getD t 0 = b.getD t 0) : a = b := by
  refine List.ext_getElem hl fun t h1 h2 => ?_
  have := h t h1
  simpa [List.getD, List.getElem?_eq_getElem h1, List.getElem?_eq_getElem h2] using this
theorem getD_mem {l : List Int} {t : Nat} (h : t < l.length) : l.getD t 0 ∈ l := by
  simp only [List.getD, List.getElem?_eq_getElem h, Option.getD_some]; exact List.getElem_mem h
/-- different blocks stand for different values -/
theorem bf_inj {ws : List Int} {ss : List (List Int)} (h : okT ws ss) : ∀ (d k : Nat), k + d + 1 = ws.length → ∀ i j, i < cnt ws ss k → j < cnt ws ss k → bf ws ss k i = bf ws ss k j → i = j := by
  have hw := h.1
  intro d
  induction d with
  | zero =>
    intro k hk i j hi hj he
    obtain ⟨_, h2, h3⟩ := ok_cnt h (k := k) (by omega)
    have hb : blk (stg ss (k + 1)) (nb ws k) i = blk (stg ss (k + 1)) (nb ws k) j := by
      refine list_eq_getD (by rw [blk_len h2 hi, blk_len h2 hj]) fun t ht => ?_
      rw [blk_len h2 hi] at ht
      rw [blk_getD ht, blk_getD ht]
      exact bf_val hw (by omega) he ht
    rcases Nat.lt_trichotomy i j with q | q | q
    · exact absurd hb (h3 i j q hj)
    · exact q
    · exact absurd hb.symm (h3 j i q hi)
  | succ d ih =>
    intro k hk i j hi hj he
    obtain ⟨_, h2, h3⟩ := ok_cnt h (k := k) (by omega)
    obtain ⟨g1, _, _⟩ := ok_cnt h (k := k + 1) (by omega)
    have hb : blk (stg ss (k + 1)) (nb ws k) i = blk (stg ss (k + 1)) (nb ws k) j := by
      refine list_eq_getD (by rw [blk_len h2 hi, blk_len h2 hj]) fun t ht => ?_
      rw [blk_len h2 hi] at ht
      rw [blk_getD ht, blk_getD ht]
      have r1 := scan_range g1 _ (getD_mem (l := stg ss (k + 1)) (t := i * nb ws k + t) (by rw [h2]; exact at_lt hi ht))
      have r2 := scan_range g1 _ (getD_mem (l := stg ss (k + 1)) (t := j * nb ws k + t) (by rw [h2]; exact at_lt hj ht))
      have := ih (k + 1) (by omega) _ _ (by omega) (by omega) (bf_ent hw (by omega) he ht)
      omega
    rcases Nat.lt_trichotomy i j with q | q | q
    · exact absurd hb (h3 i j q hj)
    · exact q
    · exact absurd hb.symm (h3 j i q hi)
theorem st0_dvd {ws : List Int} (hw : okW ws) {n : Nat} (h : n = 1114112 / 2 ^ ws.sum.toNat) : n * 2 ^ bel ws 0 = 1114112 := by
  rw [h, ← bel_zero]
  exact Nat.div_mul_cancel (Nat.dvd_trans (Nat.pow_dvd_pow 2 (bel_le hw 0)) (by decide))
/-- the numbers of stage 0 stand for the values -/
theorem top_bf {ws : List Int} (hw : okW ws) {ss ss' : List (List Int)} (h1 : (stg ss 0).length = 1114112 / 2 ^ ws.sum.toNat) (h : ∀ c, c < 1114112 → look ws ss c = look ws ss' c) {t : Nat} (ht : t < (stg ss 0).length) :
    bf ws ss 0 ((stg ss 0).getD t 0).toNat = bf ws ss' 0 ((stg ss' 0).getD t 0).toNat := bf_to fun o ho => by
  have hd := st0_dvd hw h1
  have hp := Nat.two_pow_pos (bel ws 0)
  have hlt : t * 2 ^ bel ws 0 + o < 1114112 := by
    have : (t + 1) * 2 ^ bel ws 0 ≤ (stg ss 0).length * 2 ^ bel ws 0 := Nat.mul_le_mul_right _ ht
    rw [Nat.succ_mul] at this
    omega
  have := h _ hlt
  unfold look at this
  rw [show (t * 2 ^ bel ws 0 + o) / 2 ^ bel ws 0 = t by rw [Nat.mul_comm, Nat.mul_add_div hp, Nat.div_eq_of_lt ho, Nat.add_zero], Nat.mul_comm t, Nat.mul_add_mod, Nat.mod_eq_of_lt ho] at this
  exact this
theorem getD_some {l : List Int} {t : Nat} {x : Int} (h : l[t]? = some x) : t < l.length ∧ l.getD t 0 = x := by
  obtain ⟨h1, h2⟩ := List.getElem?_eq_some_iff.1 h
  exact ⟨h1, by simp [List.getD, h]⟩
/-- stage by stage two canonical tables of the same values are the same -/
theorem stages_same {ws : List Int} {ss ss' : List (List Int)} (h : okT ws ss) (h' : okT ws ss') (he : ∀ c, c < 1114112 → look ws ss c = look ws ss' c) : ∀ k, k ≤ ws.length → stg ss k = stg ss' k ∧ (k < ws.length → ∀ t, t < (stg ss k).length → bf ws ss k ((stg ss k).getD t 0).toNat = bf ws ss' k ((stg ss' k).getD t 0).toNat) := by
  have hw := h.1
  have hinj : ∀ k, k < ws.length → ∀ i j, i < cnt ws ss k → j < cnt ws ss k → bf ws ss k i = bf ws ss k j → i = j := fun k hk => bf_inj h (ws.length - 1 - k) k (by omega)
  have hinj' : ∀ k, k < ws.length → ∀ i j, i < cnt ws ss' k → j < cnt ws ss' k → bf ws ss' k i = bf ws ss' k j → i = j := fun k hk => bf_inj h' (ws.length - 1 - k) k (by omega)
  have huse : ∀ k, k < ws.length → (stg ss k).length = (stg ss' k).length → (∀ t, t < (stg ss k).length → bf ws ss k ((stg ss k).getD t 0).toNat = bf ws ss' k ((stg ss' k).getD t 0).toNat) → stg ss k = stg ss' k := fun k hk hl hb =>
    scan_uniq (bf ws ss k) (bf ws ss' k) (e := 0) hl (ok_cnt h hk).1 (ok_cnt h' hk).1 (hinj k hk) (hinj' k hk) (fun i hi => absurd hi (by omega)) fun t x y hx hy => by
      obtain ⟨q1, q2⟩ := getD_some hx
      obtain ⟨_, q3⟩ := getD_some hy
      have := hb t q1
      rw [q2, q3] at this
      exact this
  intro k
  induction k with
  | zero =>
    intro _
    have hb : ∀ t, t < (stg ss 0).length → bf ws ss 0 ((stg ss 0).getD t 0).toNat = bf ws ss' 0 ((stg ss' 0).getD t 0).toNat := fun t ht => top_bf hw h.2.2.1 he ht
    have := hw.1
    exact ⟨huse 0 (by omega) (by rw [h.2.2.1, h'.2.2.1]) hb, fun _ => hb⟩
  | succ k ih =>
    intro hk
    obtain ⟨e1, e2⟩ := ih (by omega)
    have e2 := e2 (by omega)
    obtain ⟨s1, s2, s3⟩ := ok_cnt h (k := k) (by omega)
    obtain ⟨s1', s2', s3'⟩ := ok_cnt h' (k := k) (by omega)
    have hc : cnt ws ss k = cnt ws ss' k := by
      rw [e1, s1'] at s1; injection s1 with s1; exact s1.symm
    have hl : (stg ss (k + 1)).length = (stg ss' (k + 1)).length := by rw [s2, s2', hc]
    have hbb : ∀ i, i < cnt ws ss k → bf ws ss k i = bf ws ss' k i := fun i hi => by
      obtain ⟨t, ht⟩ := scan_onto s1 i (Nat.zero_le _) hi
      obtain ⟨q1, q2⟩ := getD_some ht
      have := e2 t q1
      rw [← e1, q2] at this
      exact this
    have hn := nb_pos ws k
    have hpos : ∀ p, p < (stg ss (k + 1)).length → p / nb ws k < cnt ws ss k ∧ p % nb ws k < nb ws k ∧ p = p / nb ws k * nb ws k + p % nb ws k := fun p hp => by
      rw [s2] at hp
      exact ⟨(Nat.div_lt_iff_lt_mul hn).2 hp, Nat.mod_lt _ hn, by rw [Nat.mul_comm]; exact (Nat.div_add_mod p _).symm⟩
    by_cases hk2 : k + 1 < ws.length
    · have hb : ∀ t, t < (stg ss (k + 1)).length → bf ws ss (k + 1) ((stg ss (k + 1)).getD t 0).toNat = bf ws ss' (k + 1) ((stg ss' (k + 1)).getD t 0).toNat := fun p hp => by
        obtain ⟨r1, r2, r3⟩ := hpos p hp
        have := bf_ent hw hk2 (hbb _ r1) r2
        rw [← r3] at this
        exact this
      exact ⟨huse (k + 1) hk2 hl hb, fun _ => hb⟩
    · refine ⟨list_eq_getD hl fun p hp => ?_, fun h => absurd h hk2⟩
      obtain ⟨r1, r2, r3⟩ := hpos p hp
      have := bf_val hw (by omega) (hbb _ r1) r2
      rw [← r3] at this
      exact this
/-- a canonical table is given by its widths and its values -/
theorem okT_uniq {ws : List Int} {ss ss' : List (List Int)} (h : okT ws ss) (h' : okT ws ss') (he : ∀ c, c < 1114112 → look ws ss c = look ws ss' c) : ss = ss' := by
  refine List.ext_getElem (by rw [h.2.1, h'.2.1]) fun k h1 h2 => ?_
  have := (stages_same h h' he k (by rw [h.2.1] at h1; omega)).1
  simpa [stg, List.getD, List.getElem?_eq_getElem h1, List.getElem?_eq_getElem h2] using this

/-- no injection into fewer -/
theorem pigeon : ∀ (m n : Nat) (g : Nat → Nat), (∀ i, i < n → g i < m) → (∀ i j, i < n → j < n → g i = g j → i = j) → n ≤ m
  | 0, n, g, h1, _ => by
    rcases Nat.eq_zero_or_pos n with h | h
    · omega
    · exact absurd (h1 0 h) (by omega)
  | m + 1, 0, g, _, _ => by omega
  | m + 1, n + 1, g, h1, h2 => by
    have := pigeon m n (fun i => if g i = m then g n else g i) (fun i hi => by
      have q1 := h1 i (by omega)
      have q2 := h1 n (by omega)
      by_cases hq : g i = m
      · simp only [hq, if_true]
        have : g n ≠ m := fun e => by have := h2 i n (by omega) (by omega) (by rw [hq, e]); omega
        omega
      · simp only [if_neg hq]; omega) (fun i j hi hj he => by
      by_cases q1 : g i = m
      · by_cases q2 : g j = m
        · exact h2 i j (by omega) (by omega) (by rw [q1, q2])
        · simp only [q1, if_true, if_neg q2] at he
          have := h2 n j (by omega) (by omega) he; omega
      · by_cases q2 : g j = m
        · simp only [q2, if_true, if_neg q1] at he
          have := h2 i n (by omega) (by omega) he; omega
        · simp only [if_neg q1, if_neg q2] at he
          exact h2 i j (by omega) (by omega) he)
    omega
theorem formed_cnt {ws : List Int} {ss : List (List Int)} (h : formedT ws ss) {k : Nat} (hk : k < ws.length) : (stg ss (k + 1)).length = cnt ws ss k * nb ws k ∧ ∀ x ∈ stg ss k, 0 ≤ x ∧ x < (cnt ws ss k : Nat) := by
  obtain ⟨h1, h2⟩ := h.2.2.2 k hk
  refine ⟨?_, h2⟩
  have := Nat.div_add_mod (stg ss (k + 1)).length (nb ws k)
  rw [h1, Nat.add_zero, Nat.mul_comm] at this
  exact this.symm
/-- each block of the canonical table stands for what a block of the other table stands for -/
theorem least_to {ws : List Int} {ss ss' : List (List Int)} (h : okT ws ss) (h' : formedT ws ss') (he : ∀ c, c < 1114112 → look ws ss c = look ws ss' c) : ∀ k, k < ws.length → ∀ i, i < cnt ws ss k → ∃ j, j < cnt ws ss' k ∧ bf ws ss k i = bf ws ss' k j := by
  have hw := h.1
  intro k
  induction k with
  | zero =>
    intro hk i hi
    obtain ⟨t, ht⟩ := scan_onto (ok_cnt h hk).1 i (Nat.zero_le _) hi
    obtain ⟨q1, q2⟩ := getD_some ht
    have := top_bf hw h.2.2.1 he q1
    rw [q2] at this
    have hm := (formed_cnt h' hk).2 _ (getD_mem (l := stg ss' 0) (t := t) (by rw [h'.2.2.1, ← h.2.2.1]; exact q1))
    exact ⟨_, by omega, this⟩
  | succ k ih =>
    intro hk i hi
    obtain ⟨t, ht⟩ := scan_onto (ok_cnt h hk).1 i (Nat.zero_le _) hi
    obtain ⟨q1, q2⟩ := getD_some ht
    have s2 := (ok_cnt h (k := k) (by omega)).2.1
    have hn := nb_pos ws k
    rw [s2] at q1
    have r1 : t / nb ws k < cnt ws ss k := (Nat.div_lt_iff_lt_mul hn).2 q1
    have r2 : t % nb ws k < nb ws k := Nat.mod_lt _ hn
    have r3 : t / nb ws k * nb ws k + t % nb ws k = t := by rw [Nat.mul_comm]; exact Nat.div_add_mod t _
    obtain ⟨j, hj, hb⟩ := ih (by omega) _ r1
    have := bf_ent hw hk hb r2
    rw [r3, q2] at this
    have s2' := (formed_cnt h' (k := k) (by omega)).1
    have hm := (formed_cnt h' hk).2 _ (getD_mem (l := stg ss' (k + 1)) (t := j * nb ws k + t % nb ws k) (by rw [s2']; exact at_lt hj r2))
    exact ⟨_, by omega, this⟩
theorem least_cnt {ws : List Int} {ss ss' : List (List Int)} (h : okT ws ss) (h' : formedT ws ss') (he : ∀ c, c < 1114112 → look ws ss c = look ws ss' c) {k : Nat} (hk : k < ws.length) : cnt ws ss k ≤ cnt ws ss' k := by
  have hto := least_to h h' he k hk
  have hinj := bf_inj h (ws.length - 1 - k) k (by omega)
  refine pigeon _ _ (fun i => if hi : i < cnt ws ss k then Classical.choose (hto i hi) else 0) (fun i hi => ?_) (fun i j hi hj hq => ?_)
  · simp only [hi, dif_pos]
    exact (Classical.choose_spec (hto i hi)).1
  · simp only [hi, hj, dif_pos] at hq
    have h1 := (Classical.choose_spec (hto i hi)).2
    have h2 := (Classical.choose_spec (hto j hj)).2
    rw [hq] at h1
    exact hinj i j hi hj (h1.trans h2.symm)
def szT (ss : List (List Int)) : Nat := (ss.map List.length).sum
theorem sum_le_of : ∀ {a b : List (List Int)}, a.length = b.length → (∀ k, k < a.length → (stg a k).length ≤ (stg b k).length) → szT a ≤ szT b
  | [], [], _, _ => by simp [szT]
  | [], _ :: _, h, _ => by simp at h
  | _ :: _, [], h, _ => by simp at h
  | x :: a, y :: b, h, hk => by
    have h0 := hk 0 (by simp)
    have := sum_le_of (a := a) (b := b) (by simpa using h) fun k hk' => by
      have := hk (k + 1) (by simpa using hk')
      simpa [stg] using this
    simp [stg] at h0
    simp [szT] at this ⊢
    omega
theorem least_sz {ws : List Int} {ss ss' : List (List Int)} (h : okT ws ss) (h' : formedT ws ss') (he : ∀ c, c < 1114112 → look ws ss c = look ws ss' c) : szT ss ≤ szT ss' := by
  refine sum_le_of (by rw [h.2.1, h'.2.1]) fun k hk => ?_
  cases k with
  | zero => rw [h.2.2.1, h'.2.2.1]; exact Nat.le_refl _
  | succ k =>
    rw [h.2.1] at hk
    rw [(ok_cnt h (k := k) (by omega)).2.1, (formed_cnt h' (k := k) (by omega)).1]
    exact Nat.mul_le_mul_right _ (least_cnt h h' he (by omega))
end Go.Proofs.Ytnlmikefihaldaa

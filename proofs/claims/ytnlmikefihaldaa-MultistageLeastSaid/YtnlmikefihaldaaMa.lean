/- Building tables in plain Lean: spans, the states of the building, what a block stands for; no program in sight. -/
import Derived.Test.YtnlmikefihaldaaTb
namespace Go.Proofs.Ytnlmikefihaldaa
open Go.RowKit

/-- spans: from, to, value -/
def valF : List (Int × Int × Int) → Int → Int
  | [], _ => 0
  | (lo, hi, v) :: r, c => if lo ≤ c ∧ c ≤ hi then v else valF r c
/-- the bits below a stage -/
def bel (ws : List Int) (k : Nat) : Nat := (ws.drop k).sum.toNat
theorem okW_drop {ws : List Int} (h : okW ws) (k : Nat) : ∀ x ∈ ws.drop k, 1 ≤ x ∧ x ≤ 12 := fun x hx => h.2.2.1 x (List.mem_of_mem_drop hx)
theorem bel_succ {ws : List Int} (h : okW ws) {k : Nat} (hk : k < ws.length) : bel ws k = wd ws k + bel ws (k + 1) := by
  have h1 := h.2.2.1 ws[k] (List.getElem_mem hk)
  have h2 := sum_bounds (okW_drop h (k + 1))
  unfold bel
  rw [List.drop_eq_getElem_cons hk, List.sum_cons, getElem_wd (List.getElem?_eq_getElem hk)]
  omega
theorem bel_end {ws : List Int} {k : Nat} (hk : ws.length ≤ k) : bel ws k = 0 := by unfold bel; rw [List.drop_of_length_le hk]; rfl
theorem bel_le {ws : List Int} (h : okW ws) : ∀ k, bel ws k ≤ 16
  | 0 => by have := h.2.2.2.2; unfold bel; rw [List.drop_zero]; omega
  | k + 1 => by
    have ih := bel_le h k
    rcases Nat.lt_or_ge k ws.length with hk | hk
    · have := bel_succ h hk; omega
    · rw [bel_end (by omega)]; omega
theorem bel_zero {ws : List Int} : bel ws 0 = ws.sum.toNat := by unfold bel; rw [List.drop_zero]
theorem wd_bd {ws : List Int} (h : okW ws) {k : Nat} (hk : k < ws.length) : 1 ≤ wd ws k ∧ wd ws k ≤ 12 := by
  have h1 := h.2.2.1 ws[k] (List.getElem_mem hk)
  rw [getElem_wd (List.getElem?_eq_getElem hk)]; omega

/-- how many numbers a block of stage k + 1 has -/
abbrev nb (ws : List Int) (k : Nat) : Nat := 2 ^ wd ws k
theorem nb_pos (ws : List Int) (k : Nat) : 0 < nb ws k := Nat.two_pow_pos _
theorem nb_bel {ws : List Int} (h : okW ws) {k : Nat} (hk : k < ws.length) : 2 ^ bel ws k = nb ws k * 2 ^ bel ws (k + 1) := by rw [bel_succ h hk, Nat.pow_add]
/-- how many blocks stage k + 1 has -/
def cnt (ws : List Int) (ss : List (List Int)) (k : Nat) : Nat := (stg ss (k + 1)).length / nb ws k
/-- the value of the code point with offset o in block i of stage k + 1; f: the stages below -/
def ex (ws : List Int) (ss : List (List Int)) : Nat → Nat → Nat → Nat → Int
  | 0, k, i, o => (stg ss (k + 1)).getD (i * nb ws k + o) 0
  | f + 1, k, i, o => ex ws ss f (k + 1) ((stg ss (k + 1)).getD (i * nb ws k + o / 2 ^ bel ws (k + 1)) 0).toNat (o % 2 ^ bel ws (k + 1))

/-- a state of the building: the stages, the blocks that were found, the blocks of one value -/
structure PS where
  ss : List (List Int)
  fm : Nat → List UInt8 → Option Int
  um : Nat → Int → Option Int

/-- stage k + 1 is in order -/
structure Gd (ws : List Int) (st : PS) (k : Nat) : Prop where
  len : (stg st.ss (k + 1)).length = cnt ws st.ss k * nb ws k
  ap : apart (stg st.ss (k + 1)) (nb ws k) (cnt ws st.ss k)
  sc : k + 1 < ws.length → scan 0 (stg st.ss (k + 1)) = some (cnt ws st.ss (k + 1))
  w64 : ∀ x ∈ stg st.ss (k + 1), W64 x
  fmok : ∀ key v, st.fm k key = some v ↔ ∃ i : Nat, i < cnt ws st.ss k ∧ v = (i : Int) ∧ keyB (blk (stg st.ss (k + 1)) (nb ws k) i) = key
  umok : ∀ v i, st.um k v = some i → ∃ n : Nat, i = (n : Int) ∧ n < cnt ws st.ss k ∧ ∀ o, o < 2 ^ bel ws k → ex ws st.ss (ws.length - 1 - k) k n o = v
/-- all stages from k + 1 on are in order, and their numbers stand for code points below a -/
def GInv (ws : List Int) (st : PS) (k a : Nat) : Prop := st.ss.length = ws.length + 1 ∧ ∀ j, k ≤ j → j < ws.length → Gd ws st j ∧ (stg st.ss (j + 1)).length * 2 ^ bel ws (j + 1) ≤ a
theorem GInv.up {ws : List Int} {st : PS} {k a b : Nat} (h : GInv ws st k a) (hab : a ≤ b) : GInv ws st k b := ⟨h.1, fun j h1 h2 => ⟨(h.2 j h1 h2).1, Nat.le_trans (h.2 j h1 h2).2 hab⟩⟩
theorem GInv.more {ws : List Int} {st : PS} {k j a : Nat} (h : GInv ws st k a) (hkj : k ≤ j) : GInv ws st j a := ⟨h.1, fun i h1 h2 => h.2 i (by omega) h2⟩
/-- the state st' came out of st, below stage k + 1 nothing has changed -/
def Ext (_ws : List Int) (st st' : PS) (k : Nat) : Prop :=
  (∀ j, j ≤ k → stg st'.ss j = stg st.ss j) ∧ (∀ j, j < k → st'.fm j = st.fm j ∧ st'.um j = st.um j) ∧ ∀ j, ∃ t, stg st'.ss j = stg st.ss j ++ t
theorem Ext.refl (ws : List Int) (st : PS) (k : Nat) : Ext ws st st k := ⟨fun _ _ => rfl, fun _ _ => ⟨rfl, rfl⟩, fun _ => ⟨[], by simp⟩⟩
theorem Ext.trans {ws : List Int} {a b c : PS} {k : Nat} (h : Ext ws a b k) (h' : Ext ws b c k) : Ext ws a c k :=
  ⟨fun j hj => (h'.1 j hj).trans (h.1 j hj), fun j hj => ⟨(h'.2.1 j hj).1.trans (h.2.1 j hj).1, (h'.2.1 j hj).2.trans (h.2.1 j hj).2⟩, fun j => by
    obtain ⟨t, ht⟩ := h.2.2 j
    obtain ⟨u, hu⟩ := h'.2.2 j
    exact ⟨t ++ u, by rw [hu, ht, List.append_assoc]⟩⟩
theorem Ext.low {ws : List Int} {a b : PS} {j k : Nat} (h : Ext ws a b k) (hj : j ≤ k) : Ext ws a b j := ⟨fun i hi => h.1 i (by omega), fun i hi => h.2.1 i (by omega), h.2.2⟩
theorem cnt_ext {ws : List Int} {a b : PS} {k : Nat} (h : Ext ws a b k) (j : Nat) : cnt ws a.ss j ≤ cnt ws b.ss j := by
  obtain ⟨t, ht⟩ := h.2.2 (j + 1)
  unfold cnt
  rw [ht, List.length_append]
  exact Nat.div_le_div_right (by omega)
theorem getD_app {l t : List Int} {i : Nat} (h : i < l.length) : (l ++ t).getD i 0 = l.getD i 0 := by
  simp [List.getD, List.getElem?_append_left h]
theorem at_lt {c n i o : Nat} (hi : i < c) (ho : o < n) : i * n + o < c * n := by
  have : (i + 1) * n ≤ c * n := Nat.mul_le_mul_right n hi
  rw [Nat.succ_mul] at this; omega
theorem off_lt {ws : List Int} (hw : okW ws) {k o : Nat} (hk : k < ws.length) (ho : o < 2 ^ bel ws k) : o / 2 ^ bel ws (k + 1) < nb ws k := by
  rw [Nat.div_lt_iff_lt_mul (Nat.two_pow_pos _), ← nb_bel hw hk]; exact ho
/-- what a block stands for does not change while the building goes on -/
theorem ex_ext {ws : List Int} (hw : okW ws) {a b : PS} {k0 : Nat} (he : Ext ws a b k0) : ∀ (f k i o A : Nat), GInv ws a k A → k + f + 1 = ws.length → i < cnt ws a.ss k → o < 2 ^ bel ws k → ex ws b.ss f k i o = ex ws a.ss f k i o := by
  intro f
  induction f with
  | zero =>
    intro k i o A hG hk hi ho
    obtain ⟨t, ht⟩ := he.2.2 (k + 1)
    have hg := (hG.2 k (Nat.le_refl _) (by omega)).1
    have hb : bel ws (k + 1) = 0 := bel_end (by omega)
    have ho' : o < nb ws k := by have := nb_bel hw (k := k) (by omega); rw [hb] at this; omega
    rw [ex, ex, ht, getD_app (by rw [hg.len]; exact at_lt hi ho')]
  | succ f ih =>
    intro k i o A hG hk hi ho
    obtain ⟨t, ht⟩ := he.2.2 (k + 1)
    have hg := (hG.2 k (Nat.le_refl _) (by omega)).1
    have ho' := off_lt hw (k := k) (by omega) ho
    have hlt : i * nb ws k + o / 2 ^ bel ws (k + 1) < (stg a.ss (k + 1)).length := by rw [hg.len]; exact at_lt hi ho'
    rw [ex, ex, ht, getD_app hlt]
    have hm : (stg a.ss (k + 1)).getD (i * nb ws k + o / 2 ^ bel ws (k + 1)) 0 ∈ stg a.ss (k + 1) := by
      simp only [List.getD, List.getElem?_eq_getElem hlt, Option.getD_some]; exact List.getElem_mem hlt
    have hr := scan_range (hg.sc (by omega)) _ hm
    exact ih (k + 1) _ _ A (hG.more (by omega)) (by omega) (by omega) (Nat.mod_lt _ (Nat.two_pow_pos _))

/-- what a call of block leaves -/
structure BPost (ws : List Int) (l : List (Int × Int × Int)) (st st' : PS) (k a i : Nat) : Prop where
  inv : GInv ws st' k (a + 2 ^ bel ws k)
  ext : Ext ws st st' k
  le : i ≤ cnt ws st.ss k
  cnt : cnt ws st'.ss k = if i = cnt ws st.ss k then cnt ws st.ss k + 1 else cnt ws st.ss k
  val : ∀ o, o < 2 ^ bel ws k → ex ws st'.ss (ws.length - 1 - k) k i o = valF l ((a + o : Nat) : Int)
theorem BPost.lt {ws : List Int} {l : List (Int × Int × Int)} {st st' : PS} {k a i : Nat} (h : BPost ws l st st' k a i) : i < Go.Proofs.Ytnlmikefihaldaa.cnt ws st'.ss k := by
  have h1 := h.le
  have h2 := h.cnt
  split at h2 <;> omega
/-- a block of one value that was met before -/
theorem bpost_hit {ws : List Int} {l : List (Int × Int × Int)} {st : PS} {k a : Nat} {v i : Int} (hk : k < ws.length) (h : GInv ws st k a) (hv : ∀ o, o < 2 ^ bel ws k → valF l ((a + o : Nat) : Int) = v) (hu : st.um k v = some i) : ∃ n : Nat, i = (n : Int) ∧ BPost ws l st st k a n := by
  obtain ⟨n, rfl, h1, h2⟩ := (h.2 k (Nat.le_refl _) hk).1.umok v i hu
  exact ⟨n, rfl, h.up (Nat.le_add_right _ _), Ext.refl _ _ _, Nat.le_of_lt h1, by rw [if_neg (by omega)], fun o ho => by rw [h2 o ho, hv o ho]⟩

/-- the numbers of a block, while they are made -/
structure LInv (ws : List Int) (l : List (Int × Int × Int)) (st0 st : PS) (k a j : Nat) (nums : List Int) : Prop where
  len : nums.length = j
  inv : GInv ws st (k + 1) (a + j * 2 ^ bel ws (k + 1))
  ext : Ext ws st0 st (k + 1)
  same : st.fm k = st0.fm k ∧ st.um k = st0.um k
  sc : k + 1 < ws.length → scan 0 (stg st.ss (k + 1) ++ nums) = some (cnt ws st.ss (k + 1))
  w64 : ∀ x ∈ nums, W64 x
  last : k + 1 = ws.length → ∀ t x, nums[t]? = some x → x = valF l ((a + t : Nat) : Int)
  more : k + 1 < ws.length → ∀ t x, nums[t]? = some x → ∃ n : Nat, x = (n : Int) ∧ n < cnt ws st.ss (k + 1) ∧ ∀ o, o < 2 ^ bel ws (k + 1) → ex ws st.ss (ws.length - 1 - (k + 1)) (k + 1) n o = valF l ((a + t * 2 ^ bel ws (k + 1) + o : Nat) : Int)
theorem linv_zero {ws : List Int} {l : List (Int × Int × Int)} {st : PS} {k a : Nat} (hk : k < ws.length) (h : GInv ws st k a) : LInv ws l st st k a 0 [] :=
  ⟨rfl, (h.more (Nat.le_succ k)).up (by omega), Ext.refl _ _ _, ⟨rfl, rfl⟩, fun h1 => by rw [List.append_nil]; exact (h.2 k (Nat.le_refl _) hk).1.sc h1, by simp, by simp, by simp⟩
theorem scan_app : ∀ {l t : List Int} {c d : Nat}, scan c l = some d → scan c (l ++ t) = scan d t
  | [], t, c, d, h => by simp [scan] at h; subst h; rfl
  | n :: r, t, c, d, h => by
    rw [scan] at h
    rw [List.cons_append, scan]
    split at h
    · cases h
    · rename_i hn; rw [if_neg hn]; exact scan_app h
theorem scan_one {c i : Nat} (h : i ≤ c) : scan c [(i : Int)] = some (if i = c then c + 1 else c) := by
  rw [scan, if_neg (by omega), scan]
  by_cases he : i = c
  · subst he; simp
  · rw [if_neg (by omega), if_neg he]
theorem stg_app {nums : List Int} {x y : Int} {t j : Nat} (hl : nums.length = j) (h : (nums ++ [y])[t]? = some x) : nums[t]? = some x ∨ t = j ∧ x = y := by
  rcases Nat.lt_or_ge t nums.length with ht | ht
  · rw [List.getElem?_append_left ht] at h; exact .inl h
  · rw [List.getElem?_append_right ht] at h
    rcases Nat.eq_zero_or_pos (t - nums.length) with h0 | h0
    · rw [h0] at h; simp at h; exact .inr ⟨by omega, h.symm⟩
    · rw [List.getElem?_eq_none (by simp; omega)] at h; cases h
theorem linv_last {ws : List Int} {l : List (Int × Int × Int)} {st0 st : PS} {k a j : Nat} {nums : List Int} (hk : k + 1 = ws.length) (h : LInv ws l st0 st k a j nums) (hv : W64 (valF l ((a + j : Nat) : Int))) : LInv ws l st0 st k a (j + 1) (nums ++ [valF l ((a + j : Nat) : Int)]) := by
  refine ⟨by simp [h.len], h.inv.up (by rw [Nat.succ_mul, ← Nat.add_assoc]; exact Nat.le_add_right _ _), h.ext, h.same, fun h1 => absurd h1 (by omega), ?_, fun _ t x hx => ?_, fun h1 => absurd h1 (by omega)⟩
  · intro x hx
    rcases List.mem_append.1 hx with hx | hx
    · exact h.w64 x hx
    · simp at hx; subst hx; exact hv
  · rcases stg_app h.len hx with hx | ⟨rfl, rfl⟩
    · exact h.last hk t x hx
    · rfl
theorem linv_more {ws : List Int} (hw : okW ws) {l : List (Int × Int × Int)} {st0 st st' : PS} {k a j i : Nat} {nums : List Int} (hk : k + 1 < ws.length) (h : LInv ws l st0 st k a j nums) (hb : BPost ws l st st' (k + 1) (a + j * 2 ^ bel ws (k + 1)) i) (hi : i ≤ 1000000000) : LInv ws l st0 st' k a (j + 1) (nums ++ [(i : Int)]) := by
  have hsc := h.sc hk
  have hgd := h.inv
  refine ⟨by simp [h.len], ?_, h.ext.trans hb.ext, ?_, fun h1 => ?_, ?_, fun h1 => absurd h1 (by omega), fun _ t x hx => ?_⟩
  · have := hb.inv; rw [Nat.add_assoc, ← Nat.succ_mul] at this; exact this
  · have := hb.ext.2.1 k (by omega); rw [this.1, this.2]; exact h.same
  · rw [hb.ext.1 (k + 1) (Nat.le_refl _), ← List.append_assoc, scan_app hsc, scan_one hb.le, hb.cnt]
  · intro x hx
    rcases List.mem_append.1 hx with hx | hx
    · exact h.w64 x hx
    · simp at hx; subst hx; unfold W64; omega
  · rcases stg_app h.len hx with hx | ⟨rfl, rfl⟩
    · obtain ⟨n, rfl, h1, h2⟩ := h.more hk t x hx
      exact ⟨n, rfl, Nat.lt_of_lt_of_le h1 (cnt_ext hb.ext _), fun o ho => by rw [ex_ext hw hb.ext _ _ _ _ _ hgd (by omega) h1 ho, h2 o ho]⟩
    · exact ⟨i, rfl, hb.lt, fun o ho => hb.val o ho⟩
/-- the state with the numbers put at the end of stage k + 1 as a new block -/
def putNew (st : PS) (k : Nat) (nums : List Int) (c : Int) : PS :=
  ⟨st.ss.set (k + 1) (stg st.ss (k + 1) ++ nums), fun j => if j = k then (fun key => if key = keyB nums then some c else st.fm k key) else st.fm j, st.um⟩
def putUni (st : PS) (k : Nat) (v i : Int) : PS := ⟨st.ss, st.fm, fun j => if j = k then (fun x => if x = v then some i else st.um k x) else st.um j⟩
theorem stg_set_same {ss : List (List Int)} {k : Nat} (h : k < ss.length) (x : List Int) : stg (ss.set k x) k = x := by simp [stg, List.getD, h]
theorem stg_set_other {ss : List (List Int)} {k j : Nat} (h : j ≠ k) (x : List Int) : stg (ss.set k x) j = stg ss j := by simp [stg, List.getD, Ne.symm h]
theorem blk_app {l t : List Int} {n i c : Nat} (hl : l.length = c * n) (hi : i < c) : blk (l ++ t) n i = blk l n i := by
  have h1 : (i + 1) * n ≤ c * n := Nat.mul_le_mul_right n hi
  rw [Nat.succ_mul] at h1
  unfold blk
  rw [List.drop_append_of_le_length (by omega), List.take_append_of_le_length (by rw [List.length_drop]; omega)]
theorem blk_new {l t : List Int} {n c : Nat} (hl : l.length = c * n) (ht : t.length = n) : blk (l ++ t) n c = t := by
  unfold blk
  rw [← hl, List.drop_left, List.take_of_length_le (by omega)]
theorem scan_same : ∀ {l : List Int} {c : Nat}, (∀ x ∈ l, 0 ≤ x ∧ x < (c : Int)) → scan c l = some c
  | [], c, _ => rfl
  | n :: r, c, h => by
    have h1 := h n (by simp)
    rw [scan, if_neg (by omega), if_neg (by omega)]
    exact scan_same fun x hx => h x (by simp [hx])
theorem getD_of {l : List Int} {t : Nat} (h : t < l.length) : l[t]? = some (l.getD t 0) := by simp [List.getD, List.getElem?_eq_getElem h]
/-- what a block of the numbers stands for -/
theorem nums_val {ws : List Int} (hw : okW ws) {l : List (Int × Int × Int)} {st0 st : PS} {k a i : Nat} {nums : List Int} (hk : k < ws.length) (h : LInv ws l st0 st k a (nb ws k) nums) {st' : PS} (hs : ∀ j, k + 1 < j → stg st'.ss j = stg st.ss j) (hb : blk (stg st'.ss (k + 1)) (nb ws k) i = nums) :
    ∀ o, o < 2 ^ bel ws k → ex ws st'.ss (ws.length - 1 - k) k i o = valF l ((a + o : Nat) : Int) := by
  intro o ho
  have hlk : ∀ t, t < nb ws k → (stg st'.ss (k + 1)).getD (i * nb ws k + t) 0 = nums.getD t 0 := fun t ht => by
    rw [← hb]
    simp [blk, List.getD, ht, List.getElem?_drop]
  rcases Nat.lt_or_ge (k + 1) ws.length with h1 | h1
  · obtain ⟨f, hf⟩ : ∃ f, ws.length - 1 - k = f + 1 := ⟨ws.length - 1 - (k + 1), by omega⟩
    have hf2 : ws.length - 1 - (k + 1) = f := by omega
    have ho' := off_lt hw hk ho
    rw [hf, ex, hlk _ ho']
    obtain ⟨n, hn, hn1, hn2⟩ := h.more h1 _ _ (getD_of (l := nums) (t := o / 2 ^ bel ws (k + 1)) (by rw [h.len]; exact ho'))
    rw [hn, Int.toNat_natCast]
    have hext : ∀ (f k' i o : Nat), k < k' → ex ws st'.ss f k' i o = ex ws st.ss f k' i o := by
      intro f
      induction f with
      | zero => intro k' i o hk'; rw [ex, ex, hs _ (by omega)]
      | succ f ih => intro k' i o hk'; rw [ex, ex, hs _ (by omega), ih _ _ _ (by omega)]
    rw [hext _ _ _ _ (by omega)]
    rw [hf2] at hn2
    rw [hn2 _ (Nat.mod_lt _ (Nat.two_pow_pos _))]
    congr 2
    have := Nat.div_add_mod o (2 ^ bel ws (k + 1))
    rw [Nat.mul_comm] at this
    omega
  · have he : k + 1 = ws.length := by omega
    have hb0 : bel ws (k + 1) = 0 := bel_end (by omega)
    have hn := nb_bel hw hk
    rw [hb0, Nat.pow_zero, Nat.mul_one] at hn
    rw [show ws.length - 1 - k = 0 by omega, ex, hlk _ (by omega)]
    exact h.last he _ _ (getD_of (by rw [h.len]; omega))
theorem linv_stg {ws : List Int} {l : List (Int × Int × Int)} {st0 st : PS} {k a j : Nat} {nums : List Int} (h : LInv ws l st0 st k a j nums) : stg st.ss (k + 1) = stg st0.ss (k + 1) := h.ext.1 _ (Nat.le_refl _)
theorem linv_cnt {ws : List Int} {l : List (Int × Int × Int)} {st0 st : PS} {k a j : Nat} {nums : List Int} (h : LInv ws l st0 st k a j nums) : cnt ws st.ss k = cnt ws st0.ss k := by unfold cnt; rw [linv_stg h]
/-- the block that was made is one that was found before -/
theorem bpost_found {ws : List Int} (hw : okW ws) {l : List (Int × Int × Int)} {st0 st : PS} {k a : Nat} {nums : List Int} {v : Int} (hk : k < ws.length) (h0 : GInv ws st0 k a) (h : LInv ws l st0 st k a (nb ws k) nums) (hf : st.fm k (keyB nums) = some v) : ∃ n : Nat, v = (n : Int) ∧ BPost ws l st0 st k a n := by
  have hg := (h0.2 k (Nat.le_refl _) hk)
  have hs := linv_stg h
  have hc := linv_cnt h
  rw [h.same.1] at hf
  obtain ⟨n, hn, rfl, hkey⟩ := (hg.1.fmok _ _).1 hf
  have hnl : (blk (stg st0.ss (k + 1)) (nb ws k) n).length = nb ws k := blk_len hg.1.len hn
  have hbn : blk (stg st0.ss (k + 1)) (nb ws k) n = nums := keyB_inj (fun x hx => hg.1.w64 x (List.mem_of_mem_drop (List.mem_of_mem_take hx))) h.w64 hkey
  have hnb := nb_bel hw hk
  have hmem : ∀ x ∈ nums, x ∈ stg st0.ss (k + 1) := fun x hx => by rw [← hbn] at hx; exact List.mem_of_mem_drop (List.mem_of_mem_take hx)
  have hcc : k + 1 < ws.length → cnt ws st.ss (k + 1) = cnt ws st0.ss (k + 1) := fun h1 => by
    have e1 := h.sc h1
    have e2 := hg.1.sc h1
    rw [hs, scan_app e2, scan_same (fun x hx => scan_range e2 x (hmem x hx))] at e1
    injection e1 with e1; exact e1.symm
  refine ⟨n, rfl, ⟨by have := h.inv.1; exact this, fun j h1 h2 => ?_⟩, h.ext.low (Nat.le_succ k), by omega, by rw [if_neg (by omega), hc], ?_⟩
  · rcases Nat.eq_or_lt_of_le h1 with rfl | h1
    · refine ⟨⟨by rw [hs, hc]; exact hg.1.len, by rw [hs, hc]; exact hg.1.ap, fun h3 => by rw [hs, hcc h3]; exact hg.1.sc h3, by rw [hs]; exact hg.1.w64, by rw [hs, hc, h.same.1]; exact hg.1.fmok, fun v i hu => ?_⟩, by rw [hs]; exact Nat.le_trans hg.2 (Nat.le_add_right _ _)⟩
      rw [h.same.2] at hu
      obtain ⟨m, rfl, m1, m2⟩ := hg.1.umok v i hu
      exact ⟨m, rfl, by rw [hc]; exact m1, fun o ho => by rw [ex_ext hw h.ext _ _ _ _ _ h0 (by omega) m1 ho, m2 o ho]⟩
    · have := h.inv.2 j h1 h2
      exact ⟨this.1, by rw [hnb]; exact this.2⟩
  · exact nums_val hw hk h (fun j _ => rfl) (by rw [hs]; exact hbn)
/-- the block is new -/
theorem bpost_new {ws : List Int} (hw : okW ws) {l : List (Int × Int × Int)} {st0 st : PS} {k a : Nat} {nums : List Int} (hk : k < ws.length) (h0 : GInv ws st0 k a) (h : LInv ws l st0 st k a (nb ws k) nums) (hf : st.fm k (keyB nums) = none) : BPost ws l st0 (putNew st k nums (cnt ws st.ss k : Nat)) k a (cnt ws st.ss k) := by
  have hg := (h0.2 k (Nat.le_refl _) hk)
  have hs := linv_stg h
  have hc := linv_cnt h
  have hnb := nb_bel hw hk
  have hsl : k + 1 < st.ss.length := by rw [h.inv.1]; omega
  have e1 : stg (putNew st k nums (cnt ws st.ss k : Nat)).ss (k + 1) = stg st.ss (k + 1) ++ nums := stg_set_same hsl _
  have e2 : ∀ j, j ≠ k + 1 → stg (putNew st k nums (cnt ws st.ss k : Nat)).ss j = stg st.ss j := fun j hj => stg_set_other hj _
  have hlen : (stg st.ss (k + 1)).length = cnt ws st.ss k * nb ws k := by rw [hs, hc]; exact hg.1.len
  have hp := nb_pos ws k
  have hcn : cnt ws (putNew st k nums (cnt ws st.ss k : Nat)).ss k = cnt ws st.ss k + 1 := by
    show (stg (putNew st k nums (cnt ws st.ss k : Nat)).ss (k + 1)).length / nb ws k = _
    rw [e1, List.length_append, hlen, h.len, ← Nat.succ_mul, Nat.mul_div_cancel _ hp]
  have hcj : ∀ j, j ≠ k → cnt ws (putNew st k nums (cnt ws st.ss k : Nat)).ss j = cnt ws st.ss j := fun j hj => by
    show (stg (putNew st k nums (cnt ws st.ss k : Nat)).ss (j + 1)).length / nb ws j = _
    rw [e2 _ (by omega)]; rfl
  have hext : Ext ws st0 (putNew st k nums (cnt ws st.ss k : Nat)) k := ⟨fun j hj => by rw [e2 _ (by omega)]; exact h.ext.1 j (by omega), fun j hj => by
      have := h.ext.2.1 j (by omega)
      refine ⟨?_, this.2⟩
      show (if j = k then _ else st.fm j) = _
      rw [if_neg (by omega)]; exact this.1, fun j => by
    obtain ⟨t, ht⟩ := h.ext.2.2 j
    by_cases hj : j = k + 1
    · subst hj; exact ⟨t ++ nums, by rw [e1, ht, List.append_assoc]⟩
    · exact ⟨t, by rw [e2 _ hj, ht]⟩⟩
  have hbo : ∀ i, i < cnt ws st.ss k → blk (stg (putNew st k nums (cnt ws st.ss k : Nat)).ss (k + 1)) (nb ws k) i = blk (stg st.ss (k + 1)) (nb ws k) i := fun i hi => by rw [e1]; exact blk_app hlen hi
  have hbn : blk (stg (putNew st k nums (cnt ws st.ss k : Nat)).ss (k + 1)) (nb ws k) (cnt ws st.ss k) = nums := by rw [e1]; exact blk_new hlen h.len
  have hne : ∀ i, i < cnt ws st.ss k → blk (stg st.ss (k + 1)) (nb ws k) i ≠ nums := fun i hi he => by
    have : st.fm k (keyB nums) = some (i : Int) := by
      rw [h.same.1]
      exact (hg.1.fmok _ _).2 ⟨i, by rw [← hc]; exact hi, rfl, by rw [← hs, he]⟩
    rw [hf] at this; cases this
  refine ⟨⟨by show (st.ss.set _ _).length = _; rw [List.length_set]; exact h.inv.1, fun j h1 h2 => ?_⟩, hext, by omega, by rw [hcn, if_pos hc, hc], nums_val hw hk h (fun j hj => e2 _ (by omega)) hbn⟩
  rcases Nat.eq_or_lt_of_le h1 with rfl | h1
  · refine ⟨⟨by rw [hcn, e1, List.length_append, hlen, h.len, Nat.succ_mul], ?_, fun h3 => ?_, ?_, ?_, fun v i hu => ?_⟩, ?_⟩
    · rw [hcn]
      refine apart_succ (fun i j hij hj => ?_) (fun j hj => ?_)
      · rw [hbo i (by omega), hbo j hj, hs]
        exact hg.1.ap i j hij (by rw [← hc]; exact hj)
      · rw [hbo j hj, hbn]; exact hne j hj
    · rw [e1, hcj _ (by omega)]; exact h.sc h3
    · intro x hx
      rw [e1] at hx
      rcases List.mem_append.1 hx with hx | hx
      · rw [hs] at hx; exact hg.1.w64 x hx
      · exact h.w64 x hx
    · intro key v
      have hfm : (putNew st k nums (cnt ws st.ss k : Nat)).fm k key = if key = keyB nums then some ((cnt ws st.ss k : Nat) : Int) else st.fm k key := by
        simp [putNew]
      rw [hfm, hcn]
      constructor
      · intro hx
        by_cases hkey : key = keyB nums
        · rw [if_pos hkey] at hx
          injection hx with hx
          exact ⟨cnt ws st.ss k, by omega, hx.symm, by rw [hbn, hkey]⟩
        · rw [if_neg hkey, h.same.1] at hx
          obtain ⟨i, hi, rfl, hk2⟩ := (hg.1.fmok _ _).1 hx
          rw [← hc] at hi
          exact ⟨i, by omega, rfl, by rw [hbo i hi, hs]; exact hk2⟩
      · rintro ⟨i, hi, rfl, hk2⟩
        rcases Nat.lt_or_eq_of_le (Nat.le_of_lt_succ hi) with hi | hi
        · rw [hbo i hi] at hk2
          by_cases hkey : key = keyB nums
          · exfalso
            rw [hkey] at hk2
            refine hne i hi (keyB_inj (fun x hx => ?_) h.w64 hk2)
            have := List.mem_of_mem_drop (List.mem_of_mem_take hx)
            rw [hs] at this
            exact hg.1.w64 x this
          · rw [if_neg hkey, h.same.1]
            exact (hg.1.fmok _ _).2 ⟨i, by rw [← hc]; exact hi, rfl, by rw [← hs]; exact hk2⟩
        · rw [hi, hbn] at hk2
          rw [if_pos hk2.symm, hi]
    · have hu' : st0.um k v = some i := by rw [← h.same.2]; exact hu
      obtain ⟨m, rfl, m1, m2⟩ := hg.1.umok v i hu'
      exact ⟨m, rfl, by rw [hcn, hc]; omega, fun o ho => by rw [ex_ext hw hext _ _ _ _ _ h0 (by omega) m1 ho, m2 o ho]⟩
    · rw [e1, List.length_append, Nat.add_mul, h.len, hnb, hs]
      have := hg.2; omega
  · have hj := h.inv.2 j h1 h2
    have hex : ∀ (f k' i o : Nat), k < k' → ex ws (putNew st k nums (cnt ws st.ss k : Nat)).ss f k' i o = ex ws st.ss f k' i o := by
      intro f
      induction f with
      | zero => intro k' i o hk'; rw [ex, ex, e2 _ (by omega)]
      | succ f ih => intro k' i o hk'; rw [ex, ex, e2 _ (by omega), ih _ _ _ (by omega)]
    have hfm : (putNew st k nums (cnt ws st.ss k : Nat)).fm j = st.fm j := by
      show (if j = k then _ else st.fm j) = _
      rw [if_neg (by omega)]
    refine ⟨⟨by rw [e2 _ (by omega), hcj _ (by omega)]; exact hj.1.len, by rw [e2 _ (by omega), hcj _ (by omega)]; exact hj.1.ap, fun h3 => by rw [e2 _ (by omega), hcj _ (by omega)]; exact hj.1.sc h3, by rw [e2 _ (by omega)]; exact hj.1.w64, by rw [e2 _ (by omega), hcj _ (by omega), hfm]; exact hj.1.fmok, fun v i hu => ?_⟩, by rw [e2 _ (by omega), hnb]; exact hj.2⟩
    obtain ⟨m, rfl, m1, m2⟩ := hj.1.umok v i hu
    exact ⟨m, rfl, by rw [hcj _ (by omega)]; exact m1, fun o ho => by rw [hex _ _ _ _ h1]; exact m2 o ho⟩
/-- a block of one value is kept by this value -/
theorem bpost_uni {ws : List Int} {l : List (Int × Int × Int)} {st0 st : PS} {k a i : Nat} {v : Int} (hk : k < ws.length) (h : BPost ws l st0 st k a i) (hv : ∀ o, o < 2 ^ bel ws k → valF l ((a + o : Nat) : Int) = v) : BPost ws l st0 (putUni st k v (i : Int)) k a i := by
  refine ⟨⟨h.inv.1, fun j h1 h2 => ⟨⟨(h.inv.2 j h1 h2).1.len, (h.inv.2 j h1 h2).1.ap, (h.inv.2 j h1 h2).1.sc, (h.inv.2 j h1 h2).1.w64, (h.inv.2 j h1 h2).1.fmok, fun x y hu => ?_⟩, (h.inv.2 j h1 h2).2⟩⟩, ⟨h.ext.1, fun j hj => ⟨(h.ext.2.1 j hj).1, ?_⟩, h.ext.2.2⟩, h.le, h.cnt, h.val⟩
  · have hum : (putUni st k v (i : Int)).um j x = if j = k ∧ x = v then some (i : Int) else st.um j x := by
      show (if j = k then _ else st.um j) x = _
      by_cases hjk : j = k
      · subst hjk
        by_cases hx : x = v <;> simp [hx]
      · simp [hjk]
    rw [hum] at hu
    by_cases hc : j = k ∧ x = v
    · rw [if_pos hc] at hu
      injection hu with hu
      obtain ⟨rfl, rfl⟩ := hc
      exact ⟨i, hu.symm, h.lt, fun o ho => by rw [show (putUni st j x (i : Int)).ss = st.ss from rfl, h.val o ho, hv o ho]⟩
    · rw [if_neg hc] at hu
      exact (h.inv.2 j h1 h2).1.umok x y hu
  · show (if j = k then _ else st.um j) = _
    rw [if_neg (by omega)]; exact (h.ext.2.1 j hj).2
end Go.Proofs.Ytnlmikefihaldaa

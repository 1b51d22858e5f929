/- multistage: spans in memory, which are valid, Check, the value of a code point and how far it goes. -/
import Derived.Test.YtnlmikefihaldaaMa
import Derived.Test.YtnlmikefihaldaaTw
namespace Go.Proofs.Ytnlmikefihaldaa
open Go.RowKit

/-- spans in memory -/
def spv (x : Int × Int × Int) : List Value := [.int .i64 x.1, .int .i64 x.2.1, .int .i64 x.2.2]
theorem spv_len (l : List (Int × Int × Int)) : (l.flatMap spv).length = l.length * 3 := by
  induction l with
  | nil => rfl
  | cons x l ih => rw [List.flatMap_cons, List.length_append, ih]; simp [spv]; omega
theorem spv_at {l : List (Int × Int × Int)} {k : Nat} {x : Int × Int × Int} (h : l[k]? = some x) : (l.flatMap spv)[k * 3]? = some (.int .i64 x.1) ∧ (l.flatMap spv)[k * 3 + 1]? = some (.int .i64 x.2.1) ∧ (l.flatMap spv)[k * 3 + 2]? = some (.int .i64 x.2.2) := by
  induction l generalizing k with
  | nil => simp at h
  | cons y l ih =>
    cases k with
    | zero => simp at h; subst h; simp [spv]
    | succ k =>
      simp at h
      obtain ⟨h1, h2, h3⟩ := ih h
      rw [show (k + 1) * 3 = k * 3 + 3 by omega, List.flatMap_cons]
      refine ⟨?_, ?_, ?_⟩
      · rw [show k * 3 + 3 = (spv y).length + k * 3 by simp [spv]; omega, List.getElem?_append_right (by omega), Nat.add_sub_cancel_left]; exact h1
      · rw [show k * 3 + 3 + 1 = (spv y).length + (k * 3 + 1) by simp [spv]; omega, List.getElem?_append_right (by omega), Nat.add_sub_cancel_left]; exact h2
      · rw [show k * 3 + 3 + 2 = (spv y).length + (k * 3 + 2) by simp [spv]; omega, List.getElem?_append_right (by omega), Nat.add_sub_cancel_left]; exact h3
theorem Reads.span {w : World} {B n : Nat} {A : Option Addr} {l : List (Int × Int × Int)} (h : Reads w B 3 A n (l.flatMap spv)) {k : Nat} (hk : k < n) :
    ∃ ad lo hi v, A = some ad ∧ ad.block < B ∧ l[k]? = some (lo, hi, v) ∧ w.cell? (ad.add (k * 3)) = some (.int .i64 lo) ∧ w.cell? ⟨(ad.add (k * 3)).block, (ad.add (k * 3)).off + 1, none⟩ = some (.int .i64 hi) ∧ w.cell? ⟨(ad.add (k * 3)).block, (ad.add (k * 3)).off + 2, none⟩ = some (.int .i64 v) := by
  have hl : l.length = n := by have := h.1; rw [spv_len] at this; omega
  obtain ⟨ad, e, hb, hc⟩ := h.2 (by omega)
  have hkl : k < l.length := by omega
  have hx := List.getElem?_eq_getElem hkl
  obtain ⟨h1, h2, h3⟩ := spv_at hx
  have g2 := hc _ _ h2
  have g3 := hc _ _ h3
  have ha : ∀ t, 0 < t → ad.add (k * 3 + t) = ⟨(ad.add (k * 3)).block, (ad.add (k * 3)).off + t, none⟩ := fun t ht => by
    unfold Addr.add
    rw [if_neg (by omega)]
    by_cases h0 : k * 3 = 0 <;> simp [h0, Nat.add_assoc]
  rw [ha 1 (by omega)] at g2
  rw [ha 2 (by omega)] at g3
  exact ⟨ad, l[k].1, l[k].2.1, l[k].2.2, e, hb, hx, hc _ _ h1, g2, g3⟩
def okS1 (x : Int × Int × Int) : Prop := 0 ≤ x.1 ∧ x.1 ≤ x.2.1 ∧ x.2.1 ≤ 1114111 ∧ x.2.2 ≠ 0
def okS2 (x y : Int × Int × Int) : Prop := x.2.1 < y.1 ∧ ¬ (y.1 = x.2.1 + 1 ∧ y.2.2 = x.2.2)
def okS (l : List (Int × Int × Int)) : Prop := (∀ (i : Nat) x, l[i]? = some x → okS1 x) ∧ ∀ (i : Nat) x y, l[i]? = some x → l[i + 1]? = some y → okS2 x y
def okSn (l : List (Int × Int × Int)) (n : Nat) : Prop := (∀ (i : Nat) x, i < n → l[i]? = some x → okS1 x) ∧ ∀ (i : Nat) x y, i + 1 < n → l[i]? = some x → l[i + 1]? = some y → okS2 x y
theorem okS_zero (l : List (Int × Int × Int)) : okSn l 0 := ⟨fun _ _ h => absurd h (by omega), fun _ _ _ h => absurd h (by omega)⟩
theorem okS_one {l : List (Int × Int × Int)} {x : Int × Int × Int} (h0 : l[0]? = some x) (hx : okS1 x) : okSn l 1 :=
  ⟨fun i y hi hy => by obtain rfl : i = 0 := by omega
                       rw [h0] at hy; injection hy with hy; subst hy; exact hx, fun i _ _ h => absurd h (by omega)⟩
theorem okS_succ {l : List (Int × Int × Int)} {k : Nat} {x y : Int × Int × Int} (h : okSn l (k + 1)) (hx : l[k]? = some x) (hy : l[k + 1]? = some y) (h1 : okS1 y) (h2 : okS2 x y) : okSn l (k + 2) := by
  refine ⟨fun i z hi hz => ?_, fun i a b hi ha hb => ?_⟩
  · rcases Nat.lt_or_eq_of_le (Nat.le_of_lt_succ hi) with hi | hi
    · exact h.1 i z hi hz
    · subst hi; rw [hy] at hz; injection hz with hz; subst hz; exact h1
  · rcases Nat.lt_or_eq_of_le (Nat.le_of_lt_succ hi) with hi | hi
    · exact h.2 i a b hi ha hb
    · obtain rfl : i = k := by omega
      rw [hx] at ha; rw [hy] at hb; injection ha with ha; injection hb with hb; subst ha; subst hb; exact h2
theorem okS_all {l : List (Int × Int × Int)} {n : Nat} (h : okSn l n) (hn : l.length ≤ n) : okS l :=
  ⟨fun i x hx => h.1 i x (by have := (List.getElem?_eq_some_iff.1 hx).1; omega) hx, fun i x y hx hy => h.2 i x y (by have := (List.getElem?_eq_some_iff.1 hy).1; omega) hx hy⟩

set_option maxRecDepth 100000 in
set_option maxHeartbeats 2000000 in
theorem cpvalid_any (c : Int) (w : World) : Calls Try.prog 46 #[.int .i64 c] w fun e w' => e = .returned (.bool (decide (0 ≤ c ∧ c ≤ 1114111))) ∧ w' = w := by
  by_cases h0 : 0 ≤ c
  · by_cases h1 : c ≤ 1114111
    · go_enter Try.func46, Try.ntmps46
      go_wp2
      go_ret
      exact ⟨by simp [h0, h1], rfl⟩
    · go_enter Try.func46, Try.ntmps46
      go_wp2
      go_ret
      exact ⟨by simp [h1], rfl⟩
  · go_enter Try.func46, Try.ntmps46
    go_wp2
    go_ret
    exact ⟨by have h0' : ¬ 0 ≤ c := by omega
              simp [h0'], rfl⟩
theorem cpvalid_is (c : Int) (b : Bool) (w : World) (h : b = decide (0 ≤ c ∧ c ≤ 1114111)) : Calls Try.prog 46 #[.int .i64 c] w fun e w' => e = .returned (.bool b) ∧ w' = w := by
  rw [h]; exact cpvalid_any c w

/-- a search: from b on the answer is yes -/
theorem search_step {p : Nat → Bool} {n h : Nat} (mono : ∀ i j, i ≤ j → j < n → p i = true → p j = true) (hp : p h = true) : ∀ t, h ≤ t → t < n → p t = true := fun t h1 h2 => mono h t h1 h2 hp
set_option maxRecDepth 100000 in
set_option maxHeartbeats 2000000 in
theorem search_any (n : Nat) (p : Nat → Bool) (cap : Array Value) (w : World) (hn : n ≤ 2000000) (mono : ∀ i j, i ≤ j → j < n → p i = true → p j = true)
    (hf : ∀ (h : Nat) (u : World), h < n → Below w.heap.size w u → Calls Try.prog 52 (#[.int .i64 (h : Int)] ++ cap) u fun e u' => e = .returned (.bool (p h)) ∧ Below w.heap.size w u') :
    Calls Try.prog 51 #[.int .i64 (n : Int), .func (.func 52) #[] cap] w fun e w' => (∃ i : Nat, e = .returned (.int .i64 (i : Int)) ∧ i ≤ n ∧ (∀ t, t < i → p t = false) ∧ ∀ t, i ≤ t → t < n → p t = true) ∧ Below w.heap.size w w' := by
  have Hm := Lib.hid mono
  have Hf := Lib.hid hf
  clear mono hf
  go_enter Try.func51, Try.ntmps51
  go_wp2
  go_loopw [5, 6] (fun a b wr => ∃ i j : Nat, i ≤ j ∧ j ≤ n ∧ a = .int .i64 (i : Int) ∧ b = .int .i64 (j : Int) ∧ Hid ((∀ t, t < i → p t = false) ∧ ∀ t, j ≤ t → t < n → p t = true) ∧ Hid (Below w.heap.size w wr)) (fun a b _ => (intOf b).toNat - (intOf a).toNat)
  case atStart => exact ⟨0, n, by omega, by omega, rfl, rfl, Lib.hid ⟨fun t ht => absurd ht (by omega), fun t h1 h2 => absurd h1 (by omega)⟩, Lib.hid (Below.refl _ _)⟩
  case round =>
    obtain ⟨i, j, hij, hjn, rfl, rfl, Hp, Hb⟩ := hrel
    by_cases hlt : i < j
    · obtain ⟨h, hh⟩ : ∃ h, h = (i + j) / 2 := ⟨_, rfl⟩
      have h1 : i ≤ h := by omega
      have h2 : h < j := by omega
      have hi : (i : Int) < (j : Int) := by omega
      have hd : ((i : Int) + (j : Int)) / 2 = (h : Int) := by omega
      have Hd := Lib.hid hd
      clear hd hh
      go_wp2_with fail
      rw [Hd.out]
      refine (Hf.out h wr (by omega) Hb.out).mono ?_
      rintro e u ⟨rfl, hbu⟩
      have Hbu := Lib.hid hbu
      clear hbu
      cases hp : p h with
      | false =>
        have hlow : ∀ t, t < h + 1 → p t = false := fun t ht => by
          cases hx : p t with
          | false => rfl
          | true =>
            have hy := Hm.out t h (by omega) (by omega) hx
            rw [hp] at hy
            exact hy.symm
        have Hp2 := Lib.hid (show (∀ t, t < h + 1 → p t = false) ∧ ∀ t, j ≤ t → t < n → p t = true from ⟨hlow, Hp.out.2⟩)
        clear hlow
        clear hp
        go_wp2
        go_roundw
        case rel => exact ⟨h + 1, j, by omega, by omega, by go_num, rfl, Hp2, Hbu⟩
        case measure => simp [intOf]; omega
      | true =>
        have Hp2 := Lib.hid (show (∀ t, t < i → p t = false) ∧ ∀ t, h ≤ t → t < n → p t = true from ⟨Hp.out.1, search_step Hm.out hp⟩)
        clear hp
        go_wp2
        go_roundw
        case rel => exact ⟨i, h, by omega, by omega, rfl, rfl, Hp2, Hbu⟩
        case measure => simp [intOf]; omega
    · obtain rfl : i = j := by omega
      have hi : ¬ (i : Int) < (i : Int) := by omega
      go_wp2
      go_ret
      exact ⟨⟨i, rfl, hjn, Hp.out.1, Hp.out.2⟩, Hb.out⟩

set_option maxRecDepth 100000 in
set_option maxHeartbeats 2000000 in
theorem strclos_any (bl bc : Nat) (A : Option Addr) (n c : Nat) (l : List (Int × Int × Int)) (x : Int) (h : Nat) (w : World) (hB : Blk w bl 22 #[.slice A n c]) (hC : Blk w bc 3 #[.int .i64 x]) (hr : Reads w w.heap.size 3 A n (l.flatMap spv)) (hh : h < n) :
    Calls Try.prog 52 #[.int .i64 (h : Int), .pointer (some ⟨bl, 0, none⟩), .pointer (some ⟨bc, 0, none⟩)] w fun e w' => e = .returned (.bool (match l[h]? with | some y => decide (x ≤ y.2.1) | none => true)) ∧ ∃ q, w' = w.drewN q := by
  obtain ⟨ad, lo, hi, v, rfl, hb, hx, c0, c1, c2⟩ := hr.span hh
  have g0 := hB.cell 0
  have g1 := hC.cell 0
  have hhi : (h : Int) < (n : Int) := by omega
  rw [hx]
  simp only
  by_cases hq : x ≤ hi
  · go_enter Try.func52, Try.ntmps52
    go_wp2_with fail
    go_quiet (fail)
    go_wp2
    go_ret
    exact ⟨by simp [hq], _, rfl⟩
  · go_enter Try.func52, Try.ntmps52
    go_wp2_with fail
    go_quiet (fail)
    go_wp2
    go_ret
    have hq' : ¬ x ≤ hi := by omega
    exact ⟨by rw [decide_eq_false hq']; rfl, _, rfl⟩
theorem okS_sorted {l : List (Int × Int × Int)} (h : okS l) {i : Nat} {x : Int × Int × Int} (hx : l[i]? = some x) : ∀ (d : Nat) (y : Int × Int × Int), l[i + d + 1]? = some y → x.2.1 < y.1 := by
  intro d
  induction d with
  | zero => intro y hy; exact (h.2 i x y hx hy).1
  | succ d ih =>
    intro y hy
    have hl : i + d + 1 < l.length := by have := (List.getElem?_eq_some_iff.1 hy).1; omega
    have hz := List.getElem?_eq_getElem hl
    have h1 := ih _ hz
    have h2 := (h.2 _ _ _ hz hy).1
    have h3 := (h.1 _ _ hz).2.1
    omega
theorem valF_none {l : List (Int × Int × Int)} {c : Int} (h : ∀ (t : Nat) x, l[t]? = some x → ¬ (x.1 ≤ c ∧ c ≤ x.2.1)) : valF l c = 0 := by
  induction l with
  | nil => rfl
  | cons y l ih =>
    obtain ⟨lo, hi, v⟩ := y
    rw [valF, if_neg (h 0 _ rfl)]
    exact ih fun t x hx => h (t + 1) x (by simpa using hx)
theorem valF_hit {l : List (Int × Int × Int)} {c : Int} {i : Nat} {x : Int × Int × Int} (hx : l[i]? = some x) (h : ∀ (t : Nat) y, t < i → l[t]? = some y → ¬ (y.1 ≤ c ∧ c ≤ y.2.1)) (hc : x.1 ≤ c ∧ c ≤ x.2.1) : valF l c = x.2.2 := by
  induction l generalizing i with
  | nil => simp at hx
  | cons y l ih =>
    obtain ⟨lo, hi, v⟩ := y
    cases i with
    | zero => simp at hx; subst hx; rw [valF, if_pos hc]
    | succ i =>
      rw [valF, if_neg (h 0 _ (by omega) rfl)]
      exact ih (by simpa using hx) fun t y ht hy => h (t + 1) y (by omega) (by simpa using hy)
/-- what stretch finds -/
def StrR (l : List (Int × Int × Int)) (c v e : Int) : Prop := v = valF l c ∧ c ≤ e ∧ e ≤ 1114111 ∧ ∀ c', c ≤ c' → c' ≤ e → valF l c' = v
theorem str_end {l : List (Int × Int × Int)} {c : Int} (hc : c ≤ 1114111) (h1 : ∀ (t : Nat) x, l[t]? = some x → x.2.1 < c) : StrR l c 0 1114111 := by
  have hz : ∀ c', c ≤ c' → valF l c' = 0 := fun c' h => valF_none fun t x hx hh => by have := h1 t x hx; omega
  exact ⟨(hz c (by omega)).symm, hc, by omega, fun c' h _ => hz c' h⟩
theorem str_gap {l : List (Int × Int × Int)} (hs : okS l) {c : Int} {i : Nat} {x : Int × Int × Int} (hx : l[i]? = some x) (h1 : ∀ (t : Nat) y, t < i → l[t]? = some y → y.2.1 < c) (hc : c < x.1) : StrR l c 0 (x.1 - 1) := by
  have hx1 := hs.1 i x hx
  unfold okS1 at hx1
  have hz : ∀ c', c ≤ c' → c' ≤ x.1 - 1 → valF l c' = 0 := fun c' g1 g2 => valF_none fun t y hy hh => by
    rcases Nat.lt_trichotomy t i with ht | ht | ht
    · have := h1 t y ht hy; omega
    · subst ht; rw [hx] at hy; injection hy with hy; subst hy; omega
    · obtain ⟨d, rfl⟩ : ∃ d, t = i + d + 1 := ⟨t - i - 1, by omega⟩
      have := okS_sorted hs hx d y hy; omega
  exact ⟨(hz c (by omega) (by omega)).symm, by omega, by omega, hz⟩
theorem str_in {l : List (Int × Int × Int)} (hs : okS l) {c : Int} {i : Nat} {x : Int × Int × Int} (hx : l[i]? = some x) (h1 : ∀ (t : Nat) y, t < i → l[t]? = some y → y.2.1 < c) (hc : x.1 ≤ c) (hc2 : c ≤ x.2.1) : StrR l c x.2.2 x.2.1 := by
  have hx1 := hs.1 i x hx
  unfold okS1 at hx1
  have hz : ∀ c', c ≤ c' → c' ≤ x.2.1 → valF l c' = x.2.2 := fun c' g1 g2 => valF_hit hx (fun t y ht hy hh => by have := h1 t y ht hy; omega) ⟨by omega, g2⟩
  exact ⟨(hz c (by omega) hc2).symm, hc2, hx1.2.2.1, hz⟩
/-- the search's question -/
def hiGe (l : List (Int × Int × Int)) (x : Int) (h : Nat) : Bool := match l[h]? with | some y => decide (x ≤ y.2.1) | none => true
theorem hiGe_mono {l : List (Int × Int × Int)} (hs : okS l) (x : Int) : ∀ i j, i ≤ j → j < l.length → hiGe l x i = true → hiGe l x j = true := by
  intro i j hij hj h
  rcases Nat.eq_or_lt_of_le hij with rfl | hij
  · exact h
  have hi := List.getElem?_eq_getElem (l := l) (show i < l.length by omega)
  have hjj := List.getElem?_eq_getElem hj
  obtain ⟨d, rfl⟩ : ∃ d, j = i + d + 1 := ⟨j - i - 1, by omega⟩
  have h1 := okS_sorted hs hi d _ hjj
  have h2 := (hs.1 _ _ hjj).2.1
  unfold hiGe at h ⊢
  rw [hi] at h
  rw [hjj]
  simp only [decide_eq_true_eq] at h ⊢
  omega
end Go.Proofs.Ytnlmikefihaldaa

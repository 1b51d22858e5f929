/- Best of both; unicodetextlaw13.MultistageBest. -/
import Derived.Test.YtnlmikefihaldaaNg
import Derived.Test.YtnlmikefihaldaaMo
namespace Go.Proofs.Ytnlmikefihaldaa
open Go.RowKit

/-- the size of the canonical table -/
def SzR (l : List (Int × Int × Int)) (ws : List Int) (s : Nat) : Prop := ∃ ss, CanT l ws ss ∧ s = szT ss
theorem szr_uniq {l : List (Int × Int × Int)} {ws : List Int} {s s' : Nat} (h : SzR l ws s) (h' : SzR l ws s') : s = s' := by
  obtain ⟨ss, h1, rfl⟩ := h
  obtain ⟨ss', h2, rfl⟩ := h'
  rw [can_uniq h1 h2]
theorem szr_le {l : List (Int × Int × Int)} {ws : List Int} {s : Nat} (h : SzR l ws s) : s ≤ 5000000000 := by
  obtain ⟨ss, h1, rfl⟩ := h
  have h2 := szT_le (ss := ss) (fun i => Nat.le_trans (h1.len i) (by omega)) ss.length (Nat.le_refl _)
  rw [List.take_length] at h2
  have h3 := h1.ok.2.1
  have h4 := h1.ok.1.2.1
  have : ss.length * 1000000000 ≤ 4 * 1000000000 := Nat.mul_le_mul_right _ (by omega)
  omega
/-- the first of the least among the first k choices -/
def MinK (l : List (Int × Int × Int)) (cs : List (List Int)) (k b s : Nat) : Prop :=
  b < k ∧ SzR l (stg cs b) s ∧ (∀ j, j < b → ∀ s', SzR l (stg cs j) s' → s < s') ∧ ∀ j, j < k → ∀ s', SzR l (stg cs j) s' → s ≤ s'
def MinS (l : List (Int × Int × Int)) (cs : List (List Int)) (k b s : Nat) : Prop := (k = 0 ∧ b = 0 ∧ s = 0) ∨ MinK l cs k b s
theorem mins_new {l : List (Int × Int × Int)} {cs : List (List Int)} {k b s z : Nat} (h : MinS l cs k b s) (hz : SzR l (stg cs k) z) (hlt : k = 0 ∨ z < s) : MinS l cs (k + 1) k z := by
  refine .inr ⟨by omega, hz, fun j hj s' hs' => ?_, fun j hj s' hs' => ?_⟩
  · rcases h with ⟨h, _⟩ | h
    · omega
    · have := h.2.2.2 j hj s' hs'; omega
  · rcases Nat.lt_or_eq_of_le (Nat.le_of_lt_succ hj) with hj | hj
    · rcases h with ⟨h, _⟩ | h
      · omega
      · have := h.2.2.2 j hj s' hs'; omega
    · subst hj; exact Nat.le_of_eq (szr_uniq hz hs')
theorem mins_old {l : List (Int × Int × Int)} {cs : List (List Int)} {k b s z : Nat} (h : MinS l cs k b s) (hz : SzR l (stg cs k) z) (hk : k ≠ 0) (hlt : ¬ z < s) : MinS l cs (k + 1) b s := by
  rcases h with ⟨h, _⟩ | ⟨h1, h2, h3, h4⟩
  · exact absurd h hk
  · refine .inr ⟨by omega, h2, h3, fun j hj s' hs' => ?_⟩
    rcases Nat.lt_or_eq_of_le (Nat.le_of_lt_succ hj) with hj | hj
    · exact h4 j hj s' hs'
    · subst hj; have := szr_uniq hz hs'; omega
theorem mins_le {l : List (Int × Int × Int)} {cs : List (List Int)} {k b s : Nat} (h : MinS l cs k b s) : s ≤ 5000000000 ∧ b ≤ k := by
  rcases h with ⟨_, h1, h2⟩ | h
  · omega
  · exact ⟨szr_le h.2.1, by have := h.1; omega⟩
/-- what Best answers -/
def BestR (l : List (Int × Int × Int)) (cs : List (List Int)) (n : Nat) (r : Int) : Prop :=
  (cs.length = 0 ∧ n = 0 ∧ r = 7) ∨
  (∃ i, i < cs.length ∧ (∀ j, j < i → ChkR l (stg cs j) 0) ∧ ChkR l (stg cs i) r ∧ r ≠ 0 ∧ n = 0) ∨
  (0 < cs.length ∧ r = 0 ∧ (∀ j, j < cs.length → ChkR l (stg cs j) 0) ∧ ∃ s, MinK l cs cs.length n s)
theorem best_uniq {l : List (Int × Int × Int)} {cs : List (List Int)} {n n' : Nat} {r r' : Int} (h : BestR l cs n r) (h' : BestR l cs n' r') : n = n' ∧ r = r' := by
  rcases h with ⟨a1, a2, a3⟩ | ⟨i, a1, a2, a3, a4, a5⟩ | ⟨a1, a2, a3, s, a4⟩ <;> rcases h' with ⟨b1, b2, b3⟩ | ⟨j, b1, b2, b3, b4, b5⟩ | ⟨b1, b2, b3, t, b4⟩
  · exact ⟨by rw [a2, b2], by rw [a3, b3]⟩
  · omega
  · omega
  · omega
  · rcases Nat.lt_trichotomy i j with q | q | q
    · exact absurd (a3.same (b2 i q)) a4
    · subst q; exact ⟨by rw [a5, b5], a3.same b3⟩
    · exact absurd (b3.same (a2 j q)) b4
  · exact absurd (a3.same (b3 i a1)) a4
  · omega
  · exact absurd (b3.same (a3 j b1)) b4
  · refine ⟨?_, by rw [a2, b2]⟩
    rcases Nat.lt_trichotomy n n' with q | q | q
    · have h1 := b4.2.2.1 n q s a4.2.1
      have h2 := a4.2.2.2 n' b4.1 t b4.2.1
      omega
    · exact q
    · have h1 := a4.2.2.1 n' q t b4.2.1
      have h2 := b4.2.2.2 n a4.1 s a4.2.1
      omega
def BestE (l : List (Int × Int × Int)) (cs : List (List Int)) (e : Ending) : Prop := ∃ (n : Nat) (r : Int), e = .returned (.tuple #[.int .i64 (n : Int), .int .i64 r]) ∧ BestR l cs n r
/-- choices in memory -/
def Chs (w : World) (B : Nat) (A : Option Addr) (n : Nat) (cs : List (List Int)) : Prop := ∃ vs, Reads w B 1 A n vs ∧ Rows w B vs cs
theorem Chs.below {w w' : World} {B : Nat} {A : Option Addr} {n : Nat} {cs : List (List Int)} (h : Chs w B A n cs) (hb : Below B w w') : Chs w' B A n cs := by obtain ⟨vs, h1, h2⟩ := h; exact ⟨vs, h1.below hb, h2.below hb⟩
theorem Chs.more {w : World} {B B' : Nat} {A : Option Addr} {n : Nat} {cs : List (List Int)} (h : Chs w B A n cs) (hb : B ≤ B') : Chs w B' A n cs := by obtain ⟨vs, h1, h2⟩ := h; exact ⟨vs, h1.more hb, h2.more hb⟩
theorem Chs.len {w : World} {B : Nat} {A : Option Addr} {n : Nat} {cs : List (List Int)} (h : Chs w B A n cs) : cs.length = n := by
  obtain ⟨vs, h1, h2⟩ := h
  have := h1.1
  have := h2.1
  omega
theorem Chs.at_ {w : World} {B : Nat} {A : Option Addr} {n : Nat} {cs : List (List Int)} (h : Chs w B A n cs) {k : Nat} (hk : k < n) : ∃ ad A2 c2, A = some ad ∧ ad.block < B ∧ w.cell? (ad.add k) = some (.slice A2 (stg cs k).length c2) ∧ (stg cs k).length ≤ c2 ∧ Reads w B 1 A2 (stg cs k).length ((stg cs k).map iv) := by
  have hl := h.len
  obtain ⟨vs, h1, h2⟩ := h
  obtain ⟨ad, u, rfl, hb, hu, hc⟩ := h1.at_ hk
  obtain ⟨A2, c2, e, hcap, hr⟩ := h2.at_ (k := k) (by omega)
  rw [hu] at e
  injection e with e
  subst e
  exact ⟨ad, A2, c2, rfl, hb, hc, hcap, hr⟩

set_option maxRecDepth 100000 in
set_option maxHeartbeats 4000000 in
theorem best_any (A : Option Addr) (n c : Nat) (l : List (Int × Int × Int)) (A' : Option Addr) (m c' : Nat) (cs : List (List Int)) (w : World) (hr : Reads w w.heap.size 3 A n (l.flatMap spv)) (hr' : Chs w w.heap.size A' m cs) (hn : n ≤ 1000000) (hm : m ≤ 1000000) (hl : W64s l) :
    Calls Try.prog 30 #[.slice A n c, .slice A' m c'] w fun e w' => BestE l cs e ∧ Below w.heap.size w w' := by
  have hlen := hr'.len
  have Hr := Lib.hid hr
  have Hr' := Lib.hid hr'
  have Hl := Lib.hid hl
  have Hlen := Lib.hid hlen
  clear hr hr' hl hlen
  go_enter Try.func30, Try.ntmps30
  rcases Nat.eq_zero_or_pos m with hz | hz
  · have H := Lib.hid (show BestR l cs 0 7 from .inl ⟨by rw [Hlen.out, hz], rfl, rfl⟩)
    subst hz
    go_wp2
    go_ret2
    exact ⟨⟨0, 7, rfl, H.out⟩, Below.refl _ _⟩
  have hz0 : ((m : Int) == 0) = false := by simp; omega
  go_wp2
  go_loopw [21] (fun s21 wr => ∃ k : Nat, k ≤ m ∧ s21 = .int .i64 (k : Int) ∧ Hid (∀ j, j < k → ChkR l (stg cs j) 0) ∧ Hid (Below w.heap.size w wr)) (fun s21 _ => m - (intOf s21).toNat)
  case atStart => exact ⟨0, by omega, rfl, Lib.hid (fun j h => absurd h (by omega)), Lib.hid (Below.refl _ _)⟩
  case round =>
    obtain ⟨k, hk, rfl, Hk, Hb⟩ := hrel
    by_cases hlt : k < m
    · obtain ⟨ad, A2, c2, rfl, had, hc, hcap, hrk⟩ := (Hr'.out.below Hb.out).at_ hlt
      have hki : (k : Int) < (m : Int) := by omega
      have hsz := Hb.out.size
      obtain ⟨L, hL⟩ : ∃ L, L = (stg cs k).length := ⟨_, rfl⟩
      rw [← hL] at hc hcap hrk
      have HRk := Lib.hid hrk
      clear hL hrk
      go_wp2_with fail
      refine (check_all A n c l A2 L c2 (stg cs k) wr ((Hr.out.below Hb.out).more hsz) (HRk.out.more hsz) hn hcap).mono ?_
      rintro e w1 ⟨⟨r, rfl, hr⟩, hb1⟩
      have HRr := Lib.hid hr
      have Hb1 := Lib.hid (Hb.out.trans (hb1.mono hsz))
      clear hr hb1
      by_cases hr0 : r = 0
      · have HK := Lib.hid (show ∀ j, j < k + 1 → ChkR l (stg cs j) 0 from fun j hj => by
          rcases Nat.lt_or_eq_of_le (Nat.le_of_lt_succ hj) with h | h
          · exact Hk.out j h
          · subst h; rw [← hr0]; exact HRr.out)
        subst hr0
        go_wp2
        go_roundw
        case rel => exact ⟨k + 1, by omega, by go_num, HK, Hb1⟩
        case measure => simp [intOf]; omega
      · have H := Lib.hid (show BestR l cs 0 r from .inr (.inl ⟨k, by rw [Hlen.out]; exact hlt, Hk.out, HRr.out, hr0, rfl⟩))
        have hrb : (r != 0) = true := by simpa using hr0
        clear hr0
        go_wp2
        go_ret2
        exact ⟨⟨0, r, rfl, H.out⟩, Hb1.out⟩
    · have hkm : k = m := by omega
      subst hkm
      have hki : ¬ (k : Int) < (k : Int) := by omega
      go_wp2
      go_loopw [9, 10, 34] (fun s9 s10 s34 wr => ∃ j b s : Nat, j ≤ k ∧ s34 = .int .i64 (j : Int) ∧ s9 = .int .i64 (b : Int) ∧ s10 = .int .i64 (s : Int) ∧ Hid (MinS l cs j b s) ∧ Hid (Below w.heap.size w wr)) (fun _ _ s34 _ => k - (intOf s34).toNat)
      case atStart => exact ⟨0, 0, 0, by omega, rfl, rfl, rfl, Lib.hid (.inl ⟨rfl, rfl, rfl⟩), Hb⟩
      case round =>
        clear Hb
        obtain ⟨j, b, s, hj, rfl, rfl, rfl, HM, Hb⟩ := hrel
        obtain ⟨hs5, hbj⟩ := mins_le HM.out
        by_cases hlt2 : j < k
        · obtain ⟨ad, A2, c2, rfl, had, hc, hcap, hrk⟩ := (Hr'.out.below Hb.out).at_ hlt2
          have hji : (j : Int) < (k : Int) := by omega
          have hsz := Hb.out.size
          obtain ⟨L, hL⟩ : ∃ L, L = (stg cs j).length := ⟨_, rfl⟩
          rw [← hL] at hc hcap hrk
          have HRk := Lib.hid hrk
          clear hL hrk
          go_wp2_with fail
          refine (build_all A n c l A2 L c2 (stg cs j) wr ((Hr.out.below Hb.out).more hsz) (HRk.out.more hsz) hn hcap Hl.out).mono ?_
          rintro e w1 ⟨hE, hb1⟩
          have hck := Hk.out j hlt2
          obtain ⟨a3, d3, a4, d4, ss, rfl, hT, hC⟩ : ∃ A1 c1 A2 c2 ss, e = .returned (.tuple #[.agg #[.slice A1 L c1, .slice A2 (L + 1) c2], .int .i64 0]) ∧ Tab w1 w1.heap.size A1 L c1 A2 (L + 1) c2 (stg cs j) ss ∧ CanT l (stg cs j) ss := by
            rcases buildE_cases hE with ⟨r, h1, h2, _⟩ | ⟨_, h⟩
            · exact absurd (h2.same hck) h1
            · exact h
          have hL3 : L ≤ 3 := by have h1 := hC.ok.1.2.1; have h2 := hT.len.1; omega
          have Hln := Lib.hid (fun i => Nat.le_trans (hC.len i) (show 1114112 ≤ 1000000000 by omega))
          have HZ := Lib.hid (show SzR l (stg cs j) (szT ss) from ⟨ss, hC, rfl⟩)
          have hbn := (Below.refl w1.heap.size w1).alloc (Nat.le_refl _) (.cells #[.slice a3 L d3, .slice a4 (L + 1) d4] 28)
          have HBk := Lib.hid (Blk.new w1 28 #[.slice a3 L d3, .slice a4 (L + 1) d4])
          have HT := Lib.hid ((hT.below hbn).more hbn.size)
          have HB2 := Lib.hid (Hb.out.trans ((hb1.trans (hbn.mono hb1.size)).mono hsz))
          have g0 := HBk.out.cell 0
          have g1 := HBk.out.cell 1
          clear hE hT hC hb1 hbn hck
          go_wp2_with fail
          obtain ⟨w2, hw2⟩ : ∃ w2, w2 = w1.alloc (.cells #[.slice a3 L d3, .slice a4 (L + 1) d4] 28) := ⟨_, rfl⟩
          rw [← hw2] at HBk HT HB2 g0 g1 ⊢
          clear hw2 g0 g1
          refine (size_any a3 a4 L d3 (L + 1) d4 (stg cs j) ss w2 HT.out (by omega) Hln.out).mono ?_
          rintro e w3 ⟨rfl, hb3⟩
          have HB3 := Lib.hid (HB2.out.trans (hb3.mono HB2.out.size))
          obtain ⟨z, hz⟩ : ∃ z, z = szT ss := ⟨_, rfl⟩
          have hz5 := szr_le HZ.out
          rw [← hz] at HZ hz5 ⊢
          clear hb3 hz
          by_cases hj0 : j = 0
          · have HN := Lib.hid (mins_new HM.out HZ.out (.inl hj0))
            subst hj0
            go_wp2
            go_roundw
            case rel => exact ⟨0 + 1, 0, z, by omega, by go_num, rfl, rfl, HN, HB3⟩
            case measure => simp [intOf]; omega
          · have hj0b : ((j : Int) == 0) = false := by simp; omega
            by_cases hzs : z < s
            · have HN := Lib.hid (mins_new HM.out HZ.out (.inr hzs))
              have hzi : (z : Int) < (s : Int) := by omega
              clear hj0
              go_wp2
              go_roundw
              case rel => exact ⟨j + 1, j, z, by omega, by go_num, rfl, rfl, HN, HB3⟩
              case measure => simp [intOf]; omega
            · have HN := Lib.hid (mins_old HM.out HZ.out hj0 hzs)
              have hzi : ¬ (z : Int) < (s : Int) := by omega
              clear hj0
              go_wp2
              go_roundw
              case rel => exact ⟨j + 1, b, s, by omega, by go_num, rfl, rfl, HN, HB3⟩
              case measure => simp [intOf]; omega
        · have hjk : j = k := by omega
          subst hjk
          have hji : ¬ (j : Int) < (j : Int) := by omega
          have H := Lib.hid (show BestR l cs b 0 from .inr (.inr ⟨by rw [Hlen.out]; exact hz, rfl, by rw [Hlen.out]; exact Hk.out, by
            rcases HM.out with ⟨h, _⟩ | h
            · omega
            · exact ⟨s, by rw [Hlen.out]; exact h⟩⟩))
          go_wp2
          go_ret2
          exact ⟨⟨b, 0, rfl, H.out⟩, Hb.out⟩

set_option maxRecDepth 100000 in
set_option maxHeartbeats 4000000 in
theorem rbest_any (A : Option Addr) (n c : Nat) (l : List (Int × Int × Int)) (A' : Option Addr) (m c' : Nat) (cs : List (List Int)) (w : World) (hr : Reads w w.heap.size 3 A n (l.flatMap spv)) (hr' : Chs w w.heap.size A' m cs) (hnc : n ≤ c) (hn : n ≤ 1000000) (hm : m ≤ 1000000) (hl : W64s l) :
    Calls Try.prog 31 #[.slice A n c, .slice A' m c'] w fun e w' => BestE l cs e ∧ Below w.heap.size w w' := by
  have hlen := hr'.len
  have Hr := Lib.hid hr
  have Hr' := Lib.hid hr'
  have Hl := Lib.hid hl
  have Hlen := Lib.hid hlen
  clear hr hr' hl hlen
  go_enter Try.func31, Try.ntmps31
  rcases Nat.eq_zero_or_pos m with hz | hz
  · have H := Lib.hid (show BestR l cs 0 7 from .inl ⟨by rw [Hlen.out, hz], rfl, rfl⟩)
    subst hz
    go_wp2
    go_ret2
    exact ⟨⟨0, 7, rfl, H.out⟩, Below.refl _ _⟩
  have hz0 : ((m : Int) == 0) = false := by simp; omega
  go_wp2
  go_loopw [6] (fun s21 wr => ∃ k : Nat, k ≤ m ∧ s21 = .int .i64 (k : Int) ∧ Hid (∀ j, j < k → ChkR l (stg cs j) 0) ∧ Hid (Below w.heap.size w wr)) (fun s21 _ => m - (intOf s21).toNat)
  case atStart => exact ⟨0, by omega, rfl, Lib.hid (fun j h => absurd h (by omega)), Lib.hid (Below.refl _ _)⟩
  case round =>
    obtain ⟨k, hk, rfl, Hk, Hb⟩ := hrel
    by_cases hlt : k < m
    · obtain ⟨ad, A2, c2, rfl, had, hc, hcap, hrk⟩ := (Hr'.out.below Hb.out).at_ hlt
      have hki : (k : Int) < (m : Int) := by omega
      have hsz := Hb.out.size
      obtain ⟨L, hL⟩ : ∃ L, L = (stg cs k).length := ⟨_, rfl⟩
      rw [← hL] at hc hcap hrk
      have HRk := Lib.hid hrk
      clear hL hrk
      go_wp2_with fail
      refine (rcheck_all A n c l A2 L c2 (stg cs k) wr ((Hr.out.below Hb.out).more hsz) (HRk.out.more hsz) hn).mono ?_
      rintro e w1 ⟨⟨r, rfl, hr⟩, hb1⟩
      have HRr := Lib.hid hr
      have Hb1 := Lib.hid (Hb.out.trans (hb1.mono hsz))
      clear hr hb1
      by_cases hr0 : r = 0
      · have HK := Lib.hid (show ∀ j, j < k + 1 → ChkR l (stg cs j) 0 from fun j hj => by
          rcases Nat.lt_or_eq_of_le (Nat.le_of_lt_succ hj) with h | h
          · exact Hk.out j h
          · subst h; rw [← hr0]; exact HRr.out)
        subst hr0
        go_wp2
        go_roundw
        case rel => exact ⟨k + 1, by omega, by go_num, HK, Hb1⟩
        case measure => simp [intOf]; omega
      · have H := Lib.hid (show BestR l cs 0 r from .inr (.inl ⟨k, by rw [Hlen.out]; exact hlt, Hk.out, HRr.out, hr0, rfl⟩))
        have hrb : (r != 0) = true := by simpa using hr0
        clear hr0
        go_wp2
        go_ret2
        exact ⟨⟨0, r, rfl, H.out⟩, Hb1.out⟩
    · have hkm : k = m := by omega
      subst hkm
      have hki : ¬ (k : Int) < (k : Int) := by omega
      go_wp2
      go_loopw [8, 9, 10] (fun s9 s10 s34 wr => ∃ j b s : Nat, j ≤ k ∧ s34 = .int .i64 (j : Int) ∧ s9 = .int .i64 (b : Int) ∧ s10 = .int .i64 (s : Int) ∧ Hid (MinS l cs j b s) ∧ Hid (Below w.heap.size w wr)) (fun _ _ s34 _ => k - (intOf s34).toNat)
      case atStart => exact ⟨0, 0, 0, by omega, rfl, rfl, rfl, Lib.hid (.inl ⟨rfl, rfl, rfl⟩), Hb⟩
      case round =>
        clear Hb
        obtain ⟨j, b, s, hj, rfl, rfl, rfl, HM, Hb⟩ := hrel
        obtain ⟨hs5, hbj⟩ := mins_le HM.out
        by_cases hlt2 : j < k
        · obtain ⟨ad, A2, c2, rfl, had, hc, hcap, hrk⟩ := (Hr'.out.below Hb.out).at_ hlt2
          have hji : (j : Int) < (k : Int) := by omega
          have hsz := Hb.out.size
          obtain ⟨L, hL⟩ : ∃ L, L = (stg cs j).length := ⟨_, rfl⟩
          rw [← hL] at hc hcap hrk
          have HRk := Lib.hid hrk
          clear hL hrk
          go_wp2_with fail
          refine (rbuild_all A n c l A2 L c2 (stg cs j) wr ((Hr.out.below Hb.out).more hsz) hnc (HRk.out.more hsz) hn hcap Hl.out).mono ?_
          rintro e w1 ⟨hE, hb1⟩
          have hck := Hk.out j hlt2
          obtain ⟨a3, d3, a4, d4, ss, rfl, hT, hC⟩ : ∃ A1 c1 A2 c2 ss, e = .returned (.tuple #[.agg #[.slice A1 L c1, .slice A2 (L + 1) c2], .int .i64 0]) ∧ Tab w1 w1.heap.size A1 L c1 A2 (L + 1) c2 (stg cs j) ss ∧ CanT l (stg cs j) ss := by
            rcases buildE_cases hE with ⟨r, h1, h2, _⟩ | ⟨_, h⟩
            · exact absurd (h2.same hck) h1
            · exact h
          have hL3 : L ≤ 3 := by have h1 := hC.ok.1.2.1; have h2 := hT.len.1; omega
          have Hln := Lib.hid (fun i => Nat.le_trans (hC.len i) (show 1114112 ≤ 1000000000 by omega))
          have HZ := Lib.hid (show SzR l (stg cs j) (szT ss) from ⟨ss, hC, rfl⟩)
          have hbn := (Below.refl w1.heap.size w1).alloc (Nat.le_refl _) (.cells #[.slice a3 L d3, .slice a4 (L + 1) d4] 28)
          have HBk := Lib.hid (Blk.new w1 28 #[.slice a3 L d3, .slice a4 (L + 1) d4])
          have HT := Lib.hid ((hT.below hbn).more hbn.size)
          have HB2 := Lib.hid (Hb.out.trans ((hb1.trans (hbn.mono hb1.size)).mono hsz))
          have g0 := HBk.out.cell 0
          have g1 := HBk.out.cell 1
          clear hE hT hC hb1 hbn hck
          obtain ⟨z, hz2⟩ : ∃ z, z = szT ss := ⟨_, rfl⟩
          have Hz := Lib.hid hz2
          have hz5 := szr_le HZ.out
          rw [← hz2] at HZ hz5
          clear hz2
          by_cases hj0 : j = 0
          · have HN := Lib.hid (mins_new HM.out HZ.out (.inl hj0))
            have hj0b : ((j : Int) == 0) = true := by simp; omega
            clear hj0
            go_wp2_with fail
            obtain ⟨w2, hw2⟩ : ∃ w2, w2 = w1.alloc (.cells #[.slice a3 L d3, .slice a4 (L + 1) d4] 28) := ⟨_, rfl⟩
            rw [← hw2] at HBk HT HB2 g0 g1 ⊢
            clear hw2 g0 g1
            refine (rsize_any a3 a4 L d3 (L + 1) d4 (stg cs j) ss w2 HT.out (by omega) Hln.out).mono ?_
            rintro e w3 ⟨rfl, hb3⟩
            rw [← Hz.out]
            have HB3 := Lib.hid (HB2.out.trans (hb3.mono HB2.out.size))
            clear hb3
            go_wp2
            go_roundw
            case rel => exact ⟨j + 1, j, z, by omega, by go_num, rfl, rfl, HN, HB3⟩
            case measure => simp [intOf]; omega
          · have hj0b : ((j : Int) == 0) = false := by simp; omega
            go_wp2_with fail
            obtain ⟨w2, hw2⟩ : ∃ w2, w2 = w1.alloc (.cells #[.slice a3 L d3, .slice a4 (L + 1) d4] 28) := ⟨_, rfl⟩
            rw [← hw2] at HBk HT HB2 g0 g1 ⊢
            clear hw2 g0 g1
            refine (rsize_any a3 a4 L d3 (L + 1) d4 (stg cs j) ss w2 HT.out (by omega) Hln.out).mono ?_
            rintro e w3 ⟨rfl, hb3⟩
            rw [← Hz.out]
            have HB3 := Lib.hid (HB2.out.trans (hb3.mono HB2.out.size))
            have HBk3 := Lib.hid (HBk.out.stay hb3)
            have HT3 := Lib.hid ((HT.out.below hb3).more hb3.size)
            have g0 := HBk3.out.cell 0
            have g1 := HBk3.out.cell 1
            clear hb3
            by_cases hzs : z < s
            · have HN := Lib.hid (mins_new HM.out HZ.out (.inr hzs))
              have hzi : (z : Int) < (s : Int) := by omega
              clear hj0
              go_wp2_with fail
              refine (rsize_any a3 a4 L d3 (L + 1) d4 (stg cs j) ss w3 HT3.out (by omega) Hln.out).mono ?_
              rintro e w4 ⟨rfl, hb4⟩
              rw [← Hz.out]
              have HB4 := Lib.hid (HB3.out.trans (hb4.mono HB3.out.size))
              clear hb4 g0 g1
              go_wp2
              go_roundw
              case rel => exact ⟨j + 1, j, z, by omega, by go_num, rfl, rfl, HN, HB4⟩
              case measure => simp [intOf]; omega
            · have HN := Lib.hid (mins_old HM.out HZ.out hj0 hzs)
              have hzi : ¬ (z : Int) < (s : Int) := by omega
              clear hj0 g0 g1
              go_wp2
              go_roundw
              case rel => exact ⟨j + 1, b, s, by omega, by go_num, rfl, rfl, HN, HB3⟩
              case measure => simp [intOf]; omega
        · have hjk : j = k := by omega
          subst hjk
          have hji : ¬ (j : Int) < (j : Int) := by omega
          have H := Lib.hid (show BestR l cs b 0 from .inr (.inr ⟨by rw [Hlen.out]; exact hz, rfl, by rw [Hlen.out]; exact Hk.out, by
            rcases HM.out with ⟨h, _⟩ | h
            · omega
            · exact ⟨s, by rw [Hlen.out]; exact h⟩⟩))
          go_wp2
          go_ret2
          exact ⟨⟨b, 0, rfl, H.out⟩, Hb.out⟩

set_option maxRecDepth 100000 in
set_option maxHeartbeats 4000000 in
theorem wk_best (A0 : Option Addr) (n0 c0 : Nat) (l : List (Int × Int × Int)) (A1 : Option Addr) (n1 c1 : Nat) (cs : List (List Int)) (w : World) (r0 : Reads w w.heap.size 3 A0 n0 (l.flatMap spv)) (m0 : n0 ≤ c0) (i0 : W64s l)
    (_i1 : W64r cs) (r1 : ∃ vs, Reads w w.heap.size 1 A1 n1 vs ∧ Rows w w.heap.size vs cs) :
    Calls Try.prog 9 #[.slice A0 n0 c0, .slice A1 n1 c1] w fun e w' => e = .returned (.bool true) ∧ Below w.heap.size w w' := by
  have R0 := Lib.hid r0
  have R1 : Hid (Chs w w.heap.size A1 n1 cs) := Lib.hid r1
  have I0 := Lib.hid i0
  have Hlen := Lib.hid R1.out.len
  clear r0 r1 i0 _i1
  go_enter Try.func9, Try.ntmps9
  by_cases q1 : 40 < n0
  · have q1d : (40 : Int) < (n0 : Int) := by omega
    go_wp2_with fail
    refine (awake_any w).mono ?_
    rintro e w2 ⟨rfl, hb2⟩
    go_wp2
    go_ret
    exact ⟨rfl, hb2⟩
  have q1d : ¬ (40 : Int) < (n0 : Int) := by omega
  by_cases q2 : 6 < n1
  · have q2d : (6 : Int) < (n1 : Int) := by omega
    go_wp2_with fail
    refine (awake_any w).mono ?_
    rintro e w2 ⟨rfl, hb2⟩
    go_wp2
    go_ret
    exact ⟨rfl, hb2⟩
  have q2d : ¬ (6 : Int) < (n1 : Int) := by omega
  go_wp2_with fail
  refine (best_any A0 n0 c0 l A1 n1 c1 cs w R0.out R1.out (by omega) (by omega) I0.out).mono ?_
  rintro e w1 ⟨⟨n, r, rfl, hB⟩, hb1⟩
  have HB1 := Lib.hid hb1
  have HB := Lib.hid hB
  clear hb1 hB
  go_wp2_with fail
  refine (rbest_any A0 n0 c0 l A1 n1 c1 cs w1 ((R0.out.below HB1.out).more HB1.out.size) ((R1.out.below HB1.out).more HB1.out.size) m0 (by omega) (by omega) I0.out).mono ?_
  rintro e w2 ⟨⟨n', r', rfl, hB'⟩, hb2⟩
  obtain ⟨hn, hr⟩ := best_uniq HB.out hB'
  subst hn
  subst hr
  have HB2 := Lib.hid (HB1.out.trans (hb2.mono HB1.out.size))
  clear hb2 hB'
  by_cases hr0 : r = 0
  rotate_left
  · have hrb : (r != 0) = true := by simpa using hr0
    clear hr0
    go_wp2_with fail
    refine (awake_any w2).mono ?_
    rintro e w3 ⟨rfl, hb3⟩
    have HE := Lib.hid (HB2.out.trans (hb3.mono HB2.out.size))
    clear hb3
    go_wp2
    go_ret
    exact ⟨rfl, HE.out⟩
  subst hr0
  obtain ⟨hall, s, hmin⟩ : (∀ j, j < n1 → ChkR l (stg cs j) 0) ∧ ∃ s, MinK l cs n1 n s := by
    rw [← Hlen.out]
    rcases HB.out with ⟨_, _, h⟩ | ⟨_, _, _, _, h, _⟩ | ⟨_, _, h1, s, h2⟩
    · omega
    · exact absurd rfl h
    · exact ⟨h1, s, h2⟩
  have Hall := Lib.hid hall
  have Hmin := Lib.hid hmin
  have hnl := hmin.1
  clear hall hmin HB
  obtain ⟨ad, A2, c2, rfl, had, hc, hcap, hrk⟩ := (R1.out.below HB2.out).at_ hnl
  have hsz := HB2.out.size
  have hni : (n : Int) < (n1 : Int) := by omega
  obtain ⟨L, hL⟩ : ∃ L, L = (stg cs n).length := ⟨_, rfl⟩
  rw [← hL] at hc hcap hrk
  have HRk := Lib.hid hrk
  clear hL hrk
  go_wp2_with fail
  refine (build_all A0 n0 c0 l A2 L c2 (stg cs n) w2 ((R0.out.below HB2.out).more hsz) (HRk.out.more hsz) (by omega) hcap I0.out).mono ?_
  rintro e w3 ⟨hE, hb3⟩
  obtain ⟨a3, d3, a4, d4, ss, rfl, hT, hC⟩ : ∃ A1 c1 A2 c2 ss, e = .returned (.tuple #[.agg #[.slice A1 L c1, .slice A2 (L + 1) c2], .int .i64 0]) ∧ Tab w3 w3.heap.size A1 L c1 A2 (L + 1) c2 (stg cs n) ss ∧ CanT l (stg cs n) ss := by
    rcases buildE_cases hE with ⟨r, h1, h2, _⟩ | ⟨_, h⟩
    · exact absurd (h2.same (Hall.out n hnl)) h1
    · exact h
  have hL3 : L ≤ 3 := by have h1 := hC.ok.1.2.1; have h2 := hT.len.1; omega
  have Hln := Lib.hid (fun i => Nat.le_trans (hC.len i) (show 1114112 ≤ 1000000000 by omega))
  have hszs : s = szT ss := szr_uniq Hmin.out.2.1 ⟨ss, hC, rfl⟩
  have Hszs := Lib.hid hszs
  have hbn := (Below.refl w3.heap.size w3).alloc (Nat.le_refl _) (.cells #[.slice a3 L d3, .slice a4 (L + 1) d4] 28)
  have HBk := Lib.hid (Blk.new w3 28 #[.slice a3 L d3, .slice a4 (L + 1) d4])
  have HT := Lib.hid ((hT.below hbn).more hbn.size)
  have HB4 := Lib.hid (HB2.out.trans ((hb3.trans (hbn.mono hb3.size)).mono hsz))
  clear hE hT hC hb3 hbn hszs
  go_wp2_with fail
  obtain ⟨w4, hw4⟩ : ∃ w4, w4 = w3.alloc (.cells #[.slice a3 L d3, .slice a4 (L + 1) d4] 28) := ⟨_, rfl⟩
  rw [← hw4] at HBk HT HB4 ⊢
  clear hw4
  go_loopw [11] (fun s11 wr => ∃ k : Nat, k ≤ n1 ∧ s11 = .int .i64 (k : Int) ∧ Hid (Below w4.heap.size w4 wr)) (fun s11 _ => n1 - (intOf s11).toNat)
  case atStart => exact ⟨0, by omega, rfl, Lib.hid (Below.refl _ _)⟩
  case round =>
    obtain ⟨k, hk, rfl, Hb⟩ := hrel
    have HBr := Lib.hid (HB4.out.trans (Hb.out.mono HB4.out.size))
    by_cases hlt : k < n1
    · obtain ⟨ad', A5, c5, hadE, had', hc5, hcap5, hr5⟩ := (R1.out.below HBr.out).at_ hlt
      injection hadE with hadE
      subst hadE
      have hki : (k : Int) < (n1 : Int) := by omega
      have hszr := HBr.out.size
      obtain ⟨L5, hL5⟩ : ∃ L, L = (stg cs k).length := ⟨_, rfl⟩
      rw [← hL5] at hc5 hcap5 hr5
      have HR5 := Lib.hid hr5
      clear hL5 hr5 hc
      go_wp2_with fail
      refine (build_all A0 n0 c0 l A5 L5 c5 (stg cs k) wr ((R0.out.below HBr.out).more hszr) (HR5.out.more hszr) (by omega) hcap5 I0.out).mono ?_
      rintro e w5 ⟨hE, hb5⟩
      obtain ⟨a6, d6, a7, d7, ss5, rfl, hT5, hC5⟩ : ∃ A1 c1 A2 c2 ss, e = .returned (.tuple #[.agg #[.slice A1 L5 c1, .slice A2 (L5 + 1) c2], .int .i64 0]) ∧ Tab w5 w5.heap.size A1 L5 c1 A2 (L5 + 1) c2 (stg cs k) ss ∧ CanT l (stg cs k) ss := by
        rcases buildE_cases hE with ⟨r, h1, h2, _⟩ | ⟨_, h⟩
        · exact absurd (h2.same (Hall.out k hlt)) h1
        · exact h
      have hL53 : L5 ≤ 3 := by have h1 := hC5.ok.1.2.1; have h2 := hT5.len.1; omega
      have Hln5 := Lib.hid (fun i => Nat.le_trans (hC5.len i) (show 1114112 ≤ 1000000000 by omega))
      have hle : s ≤ szT ss5 := Hmin.out.2.2.2 k hlt _ ⟨ss5, hC5, rfl⟩
      have hbn := (Below.refl w5.heap.size w5).alloc (Nat.le_refl _) (.cells #[.slice a6 L5 d6, .slice a7 (L5 + 1) d7] 28)
      have hbk5 := Blk.new w5 28 #[.slice a6 L5 d6, .slice a7 (L5 + 1) d7]
      have hb56 := Hb.out.trans ((hb5.trans (hbn.mono hb5.size)).mono Hb.out.size)
      have hT56 := (hT5.below hbn).more hbn.size
      clear hE hT5 hC5 hb5 hbn
      go_wp2_with fail
      obtain ⟨w6, hw6⟩ : ∃ w6, w6 = w5.alloc (.cells #[.slice a6 L5 d6, .slice a7 (L5 + 1) d7] 28) := ⟨_, rfl⟩
      rw [← hw6] at hbk5 hb56 hT56 ⊢
      clear hw6
      have HBk5 := Lib.hid hbk5
      have Hb56 := Lib.hid hb56
      have HT5 := Lib.hid hT56
      clear hbk5 hb56 hT56
      have HBk4 := Lib.hid (HBk.out.below Hb56.out HBk.out.lt)
      have HT4 := Lib.hid ((HT.out.below Hb56.out).more Hb56.out.size)
      obtain ⟨z, hz⟩ : ∃ z, z = szT ss5 := ⟨_, rfl⟩
      have CS := Lib.hid (show ∀ u, Below w6.heap.size w6 u → Calls Try.prog 21 #[.agg #[.slice a3 L d3, .slice a4 (L + 1) d4]] u fun e u' => e = .returned (.int .i64 (s : Int)) ∧ Below w6.heap.size w6 u' from fun u hu =>
        (size_any a3 a4 L d3 (L + 1) d4 (stg cs n) ss u ((HT4.out.below hu).more hu.size) (by omega) Hln.out).mono fun e u' ⟨h1, h2⟩ => ⟨by rw [h1, Hszs.out], hu.trans (h2.mono hu.size)⟩)
      have CS5 := Lib.hid (show ∀ u, Below w6.heap.size w6 u → Calls Try.prog 21 #[.agg #[.slice a6 L5 d6, .slice a7 (L5 + 1) d7]] u fun e u' => e = .returned (.int .i64 (z : Int)) ∧ Below w6.heap.size w6 u' from fun u hu =>
        (size_any a6 a7 L5 d6 (L5 + 1) d7 (stg cs k) ss5 u ((HT5.out.below hu).more hu.size) (by omega) Hln5.out).mono fun e u' ⟨h1, h2⟩ => ⟨by rw [h1, hz], hu.trans (h2.mono hu.size)⟩)
      have hzs : ¬ (z : Int) < (s : Int) := by omega
      have KK := Lib.hid (show ∀ u, Below w6.heap.size w6 u → u.cell? ⟨w3.heap.size, 0, none⟩ = some (.slice a3 L d3) ∧ u.cell? ⟨w3.heap.size, 1, none⟩ = some (.slice a4 (L + 1) d4) ∧ u.cell? ⟨w5.heap.size, 0, none⟩ = some (.slice a6 L5 d6) ∧ u.cell? ⟨w5.heap.size, 1, none⟩ = some (.slice a7 (L5 + 1) d7) from fun u hu =>
        ⟨(hu.cell HBk4.out.lt).trans (HBk4.out.cell 0), (hu.cell HBk4.out.lt).trans (HBk4.out.cell 1), (hu.cell HBk5.out.lt).trans (HBk5.out.cell 0), (hu.cell HBk5.out.lt).trans (HBk5.out.cell 1)⟩)
      have hbS : Below w6.heap.size w6 w6.drew := (Below.refl _ _).drew
      clear hle hz
      go_region_held3 (fun u => Below w6.heap.size w6 u ∧ u.cell? ⟨w3.heap.size, 0, none⟩ = some (.slice a3 L d3) ∧ u.cell? ⟨w3.heap.size, 1, none⟩ = some (.slice a4 (L + 1) d4) ∧ u.cell? ⟨w5.heap.size, 0, none⟩ = some (.slice a6 L5 d6) ∧ u.cell? ⟨w5.heap.size, 1, none⟩ = some (.slice a7 (L5 + 1) d7)) (first | exact ⟨hbS, KK.out _ hbS⟩) (first | (go_at_call 21; (with_reducible refine (CS.out _ hbS).mono ?_); rintro e u ⟨rfl, hbu⟩; clear hbS; have hbS := hbu; clear hbu) | (go_at_call 21; (with_reducible refine (CS5.out _ hbS).mono ?_); rintro e u ⟨rfl, hbu⟩; clear hbS; have hbS := hbu; clear hbu))
      all_goals (have HN := Lib.hid (Hb56.out.trans (hbS.mono Hb56.out.size)); clear hbS)
      all_goals go_wp2
      all_goals go_roundw
      all_goals (first | exact ⟨k + 1, by omega, by go_num, HN⟩ | (simp [intOf]; omega))
    · have hki : ¬ (k : Int) < (n1 : Int) := by omega
      go_wp2_with fail
      refine (awake_any wr).mono ?_
      rintro e w5 ⟨rfl, hb5⟩
      have HE := Lib.hid (HBr.out.trans (hb5.mono HBr.out.size))
      clear hb5
      go_wp2
      go_ret
      exact ⟨rfl, HE.out⟩
end Go.Proofs.Ytnlmikefihaldaa

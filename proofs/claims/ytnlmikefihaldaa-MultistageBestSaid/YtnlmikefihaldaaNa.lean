/- The reference's spans, Check, within, flat. -/
import Derived.Test.YtnlmikefihaldaaMl
namespace Go.Proofs.Ytnlmikefihaldaa
open Go.RowKit

set_option maxRecDepth 100000 in
set_option maxHeartbeats 4000000 in
theorem rspans_any (A : Option Addr) (n c : Nat) (l : List (Int × Int × Int)) (w : World) (hr : Reads w w.heap.size 3 A n (l.flatMap spv)) (hn : n ≤ 1000000) :
    Calls Try.prog 53 #[.slice A n c] w fun e w' => Says e (okS l) ∧ Below w.heap.size w w' := by
  have hl : l.length = n := by have := hr.1; rw [spv_len] at this; omega
  have Hl := Lib.hid hl
  have HR := Lib.hid hr
  clear hl hr
  go_enter Try.func53, Try.ntmps53
  go_wp2
  go_loopw [3] (fun i wr => ∃ k q : Nat, k ≤ n ∧ i = .int .i64 (k : Int) ∧ Hid (okSn l k) ∧ wr = w.drewN q) (fun i _ => n - (intOf i).toNat)
  case atStart => exact ⟨0, 0, by omega, rfl, Lib.hid (okS_zero l), rfl⟩
  case round =>
    obtain ⟨k, q, hk, rfl, Hk, rfl⟩ := hrel
    by_cases hlt : k < n
    · obtain ⟨ad, lo, hi, v, rfl, hadb, hxl, c0, c1, c2⟩ := HR.out.span hlt
      have Hx := Lib.hid hxl
      have Hno := Lib.hid (show ¬ okS1 (lo, hi, v) → ¬ okS l from fun h ho => h (ho.1 k _ Hx.out))
      have hki : (k : Int) < (n : Int) := by omega
      have hk0 : (0 : Int) ≤ (k : Int) := by omega
      clear hxl
      by_cases q1 : lo < 0
      · have H := Lib.hid (Hno.out (fun ho => by have := ho.1; simp only at this; omega))
        have d1 : decide (lo < 0) = true := decide_eq_true q1
        go_wp2_with fail
        go_quiet (fail)
        go_wp2
        go_ret
        exact ⟨Says.no rfl H.out, below_drewN (below_drewN (Below.refl _ _) _) _⟩
      have d1 : decide (lo < 0) = false := decide_eq_false q1
      by_cases q2 : 1114111 < hi
      · have H := Lib.hid (Hno.out (fun ho => by have := ho.2.2.1; simp only at this; omega))
        have d2 : decide (1114111 < hi) = true := decide_eq_true q2
        clear q1
        go_wp2_with fail
        go_quiet (fail)
        go_wp2
        go_ret
        exact ⟨Says.no rfl H.out, below_drewN (below_drewN (Below.refl _ _) _) _⟩
      have d2 : decide (1114111 < hi) = false := decide_eq_false q2
      by_cases q3 : hi < lo
      · have H := Lib.hid (Hno.out (fun ho => by have := ho.2.1; simp only at this; omega))
        have d3 : decide (hi < lo) = true := decide_eq_true q3
        clear q1 q2
        go_wp2_with fail
        go_quiet (fail)
        go_wp2
        go_ret
        exact ⟨Says.no rfl H.out, below_drewN (below_drewN (Below.refl _ _) _) _⟩
      have d3 : decide (hi < lo) = false := decide_eq_false q3
      by_cases q4 : v = 0
      · have H := Lib.hid (Hno.out (fun ho => ho.2.2.2 q4))
        subst q4
        clear q1 q2 q3
        go_wp2_with fail
        go_quiet (fail)
        go_wp2
        go_ret
        exact ⟨Says.no rfl H.out, below_drewN (below_drewN (Below.refl _ _) _) _⟩
      have d4 : (v == 0) = false := by simpa using q4
      have Hx1 := Lib.hid (show okS1 (lo, hi, v) from ⟨by simp only; omega, by simp only; omega, by simp only; omega, q4⟩)
      clear q1 q2 q3 q4
      rcases Nat.eq_zero_or_pos k with hz | hz
      · have HK := Lib.hid (show okSn l (k + 1) by rw [hz]; exact okS_one (by rw [← hz]; exact Hx.out) Hx1.out)
        have dz : decide (0 < k) = false := decide_eq_false (by omega)
        clear hz
        go_wp2_with fail
        go_quiet (fail)
        go_wp2_with fail
        go_quiet (fail)
        go_wp2
        go_roundw
        case rel => exact ⟨k + 1, _, by omega, by go_num, HK, rfl⟩
        case measure => simp [intOf]; omega
      · obtain ⟨k, rfl⟩ : ∃ k', k = k' + 1 := ⟨k - 1, by omega⟩
        clear hz
        obtain ⟨ad', lo', hi', v', e', _, hxl', b0, b1, b2⟩ := HR.out.span (k := k) (by omega)
        injection e' with e'
        subst e'
        have hk1 : (0 : Int) < (k : Int) + 1 := by omega
        have hk2 : (k : Int) < (n : Int) := by omega
        have hk3 : (0 : Int) ≤ (k : Int) := by omega
        have hwk : IntKind.i64.wrap (k : Int) = (k : Int) := IntWalk.i64_in _ (by omega)
        have Hx' := Lib.hid hxl'
        have Hno2 := Lib.hid (show ¬ okS2 (lo', hi', v') (lo, hi, v) → ¬ okS l from fun h ho => h (ho.2 k _ _ Hx'.out Hx.out))
        have hpr := Hk.out.1 k _ (by omega) hxl'
        unfold okS1 at hpr
        simp only at hpr
        obtain ⟨r1, r2, r3, r4⟩ := hpr
        have hwh : IntKind.i64.wrap (hi' + 1) = hi' + 1 := IntWalk.i64_in _ (by omega)
        clear hxl' r1 r2 r3 r4
        by_cases s1 : lo ≤ hi'
        · have H := Lib.hid (Hno2.out (fun ho => by have := ho.1; simp only at this; omega))
          have e1 : decide (lo ≤ hi') = true := decide_eq_true s1
          go_wp2_with fail
          go_quiet (fail)
          go_wp2_with fail
          go_quiet (fail)
          go_wp2
          go_ret
          exact ⟨Says.no rfl H.out, below_drewN (below_drewN (below_drewN (Below.refl _ _) _) _) _⟩
        have e1 : decide (lo ≤ hi') = false := decide_eq_false s1
        by_cases s2 : lo = hi' + 1
        · by_cases s3 : v = v'
          · have H := Lib.hid (Hno2.out (fun ho => ho.2 ⟨s2, s3⟩))
            have e2 : (lo == hi' + 1) = true := by simpa using s2
            subst s3
            have e3 : (v == v) = true := by simp
            clear s1 s2
            go_wp2_with fail
            go_quiet (fail)
            go_wp2_with fail
            go_quiet (fail)
            go_wp2
            go_ret
            exact ⟨Says.no rfl H.out, below_drewN (below_drewN (below_drewN (Below.refl _ _) _) _) _⟩
          · have HK := Lib.hid (okS_succ Hk.out Hx'.out Hx.out Hx1.out ⟨by simp only; omega, fun h => s3 h.2⟩)
            have e2 : (lo == hi' + 1) = true := by simpa using s2
            have e3 : (v == v') = false := by simpa using s3
            clear s1 s2 s3
            go_wp2_with fail
            go_quiet (fail)
            go_wp2_with fail
            go_quiet (fail)
            go_wp2
            go_roundw
            case rel => exact ⟨k + 1 + 1, _, by omega, by go_num, HK, rfl⟩
            case measure => simp [intOf]; omega
        · have HK := Lib.hid (okS_succ Hk.out Hx'.out Hx.out Hx1.out ⟨by simp only; omega, fun h => s2 h.1⟩)
          have e2 : (lo == hi' + 1) = false := by simpa using s2
          clear s1 s2
          go_wp2_with fail
          go_quiet (fail)
          go_wp2_with fail
          go_quiet (fail)
          go_wp2
          go_roundw
          case rel => exact ⟨k + 1 + 1, _, by omega, by go_num, HK, rfl⟩
          case measure => simp [intOf]; omega
    · have H := Lib.hid (okS_all Hk.out (by have := Hl.out; omega))
      have hki : ¬ (k : Int) < (n : Int) := by omega
      go_wp2
      go_ret
      exact ⟨Says.yes rfl H.out, below_drewN (Below.refl _ _) _⟩
set_option maxRecDepth 100000 in
set_option maxHeartbeats 4000000 in
theorem rcheck_any (A : Option Addr) (n c : Nat) (l : List (Int × Int × Int)) (A' : Option Addr) (n' c' : Nat) (ws : List Int) (w : World) (hr : Reads w w.heap.size 3 A n (l.flatMap spv)) (hr' : Reads w w.heap.size 1 A' n' (ws.map iv)) (hn : n ≤ 1000000) (hn' : n' ≤ 1000000) :
    Calls Try.prog 37 #[.slice A n c, .slice A' n' c'] w fun e w' => ChkE e l ws ∧ Below w.heap.size w w' := by
  have HR := Lib.hid hr
  have HR' := Lib.hid hr'
  clear hr hr'
  go_enter Try.func37, Try.ntmps37
  go_wp2_with fail
  refine (rspans_any A n c l w HR.out hn).mono ?_
  rintro e w1 ⟨⟨r, rfl, hr⟩, hb1⟩
  have Hb1 := Lib.hid hb1
  have Hr := Lib.hid hr
  clear hb1 hr
  cases r with
  | false =>
    have H := Lib.hid (show ChkR l ws 4 from .inl ⟨fun h => absurd (Hr.out.2 h) (by decide), rfl⟩)
    clear Hr
    go_wp2
    go_ret
    exact ⟨⟨4, rfl, H.out⟩, Hb1.out⟩
  | true =>
    have Hs := Lib.hid (Hr.out.1 rfl)
    clear Hr
    go_wp2_with fail
    refine (bits_any A' n' c' ws w1 ((HR'.out.below Hb1.out).more Hb1.out.size) (by omega)).mono ?_
    rintro e w2 ⟨rfl, rfl⟩
    by_cases hw : okW ws
    · have H := Lib.hid (show ChkR l ws 0 from .inr (.inr ⟨Hs.out, hw, rfl⟩))
      rw [bits_yes hw]
      have hs9 : 9 ≤ ws.sum := hw.2.2.2.1
      have hsz : (ws.sum == 0) = false := by simp; omega
      clear hw hs9
      go_wp2
      go_ret
      exact ⟨⟨0, rfl, H.out⟩, Hb1.out⟩
    · have H := Lib.hid (show ChkR l ws 1 from .inr (.inl ⟨Hs.out, hw, rfl⟩))
      rw [bits_no hw]
      clear hw
      go_wp2
      go_ret
      exact ⟨⟨1, rfl, H.out⟩, Hb1.out⟩

/-- the spans that concern the code points from lo to hi -/
def Near (l nl : List (Int × Int × Int)) (lo hi : Int) : Prop := okS nl ∧ ∀ c, lo ≤ c → c ≤ hi → valF nl c = valF l c
theorem okS_drop {l : List (Int × Int × Int)} (h : okS l) (k : Nat) : okS (l.drop k) :=
  ⟨fun i x hx => h.1 (k + i) x (by rw [← hx, List.getElem?_drop]), fun i x y hx hy => h.2 (k + i) x y (by rw [← hx, List.getElem?_drop]) (by rw [← hy, List.getElem?_drop]; congr 1)⟩
theorem okS_take {l : List (Int × Int × Int)} (h : okS l) (k : Nat) : okS (l.take k) := by
  have g : ∀ {i : Nat} {x}, (l.take k)[i]? = some x → l[i]? = some x := fun {i x} hx => by
    rw [List.getElem?_take] at hx
    split at hx
    · exact hx
    · cases hx
  exact ⟨fun i x hx => h.1 i x (g hx), fun i x y hx hy => h.2 i x y (g hx) (g hy)⟩
theorem near_of {l : List (Int × Int × Int)} (h : okS l) {lo hi : Int} {k j : Nat} (hkj : k ≤ j) (h1 : ∀ (t : Nat) x, t < k → l[t]? = some x → x.2.1 < lo) (h2 : ∀ x, l[j]? = some x → hi < x.1) : Near l ((l.drop k).take (j - k)) lo hi := by
  refine ⟨okS_take (okS_drop h k) _, fun c hc1 hc2 => ?_⟩
  have e1 : valF l c = valF (l.drop k) c := by
    have := (valF_app (l.take k) (l.drop k) c).2 fun y hy hh => by
      obtain ⟨t, ht⟩ := List.getElem?_of_mem hy
      rw [List.getElem?_take] at ht
      split at ht
      · rename_i htk
        have := h1 t y htk ht; omega
      · cases ht
    rwa [List.take_append_drop] at this
  have e2 : valF (l.drop j) c = 0 := valF_zero fun y hy hh => by
    obtain ⟨t, ht⟩ := List.getElem?_of_mem hy
    rw [List.getElem?_drop] at ht
    have hjl : j < l.length := by have := (List.getElem?_eq_some_iff.1 ht).1; omega
    have hx := List.getElem?_eq_getElem hjl
    have h3 := h2 _ hx
    have h4 := (h.1 _ _ hx).2.1
    rcases Nat.eq_zero_or_pos t with h0 | h0
    · subst h0; rw [Nat.add_zero, hx] at ht; injection ht with ht; subst ht; omega
    · have := okS_sorted h hx (t - 1) y (by rw [show j + (t - 1) + 1 = j + t by omega]; exact ht)
      omega
  have ha := valF_app ((l.drop k).take (j - k)) ((l.drop k).drop (j - k)) c
  rw [List.take_append_drop, List.drop_drop, show k + (j - k) = j by omega] at ha
  rw [e1]
  by_cases hx : ∃ y ∈ (l.drop k).take (j - k), y.1 ≤ c ∧ c ≤ y.2.1
  · exact (ha.1 hx).symm
  · have hx' : ∀ y ∈ (l.drop k).take (j - k), ¬ (y.1 ≤ c ∧ c ≤ y.2.1) := fun y hy hh => hx ⟨y, hy, hh⟩
    rw [ha.2 hx', e2]
    exact valF_zero hx'
theorem spv_drop (l : List (Int × Int × Int)) (k : Nat) : (l.drop k).flatMap spv = (l.flatMap spv).drop (k * 3) := by
  induction l generalizing k with
  | nil => simp
  | cons x l ih =>
    cases k with
    | zero => simp
    | succ k =>
      rw [List.drop_succ_cons, ih, List.flatMap_cons, show (k + 1) * 3 = (spv x).length + k * 3 by simp [spv]; omega, List.drop_append]
      simp
theorem spv_take (l : List (Int × Int × Int)) (k : Nat) : (l.take k).flatMap spv = (l.flatMap spv).take (k * 3) := by
  induction l generalizing k with
  | nil => simp
  | cons x l ih =>
    cases k with
    | zero => simp
    | succ k =>
      rw [List.take_succ_cons, List.flatMap_cons, ih, List.flatMap_cons, show (k + 1) * 3 = (spv x).length + k * 3 by simp [spv]; omega, List.take_append, List.take_of_length_le (Nat.le_add_right _ _)]
      simp
theorem reads_part3 {w : World} {B n cap : Nat} {A : Option Addr} {l : List (Int × Int × Int)} (h : Reads w B 3 A n (l.flatMap spv)) {k j : Nat} (hkj : k ≤ j) (hj : j ≤ n) (hc : n ≤ cap) :
    Reads w B 3 (if cap = k then A else A.map (·.add (k * 3))) (j - k) (((l.drop k).take (j - k)).flatMap spv) := by
  have h1 := h.cut (k := k) (cap := cap) (by omega) hc
  rw [← spv_drop] at h1
  rw [spv_take]
  refine ⟨by rw [List.length_take, h1.1]; omega, fun h0 => ?_⟩
  obtain ⟨ad, e, hb, hcell⟩ := h1.2 (by omega)
  refine ⟨ad, e, hb, fun t u ht => hcell t u ?_⟩
  rw [List.getElem?_take] at ht
  split at ht
  · exact ht
  · cases ht
/-- what within hands back -/
def NearE (w : World) (B : Nat) (l : List (Int × Int × Int)) (lo hi : Int) (e : Ending) : Prop := ∃ A n c nl, e = .returned (.slice A n c) ∧ Reads w B 3 A n (nl.flatMap spv) ∧ n ≤ c ∧ n ≤ 1000000 ∧ Near l nl lo hi
set_option maxRecDepth 100000 in
set_option maxHeartbeats 4000000 in
theorem within_any (A : Option Addr) (n c : Nat) (l : List (Int × Int × Int)) (lo hi : Int) (B : Nat) (w : World) (hr : Reads w B 3 A n (l.flatMap spv)) (hc : n ≤ c) (hn : n ≤ 1000000) (hs : okS l) :
    Calls Try.prog 40 #[.slice A n c, .int .i64 lo, .int .i64 hi] w fun e w' => NearE w B l lo hi e ∧ w' = w := by
  have hl : l.length = n := by have := hr.1; rw [spv_len] at this; omega
  have Hl := Lib.hid hl
  have HR := Lib.hid hr
  have Hs := Lib.hid hs
  clear hl hr hs
  go_enter Try.func40, Try.ntmps40
  go_wp2
  go_loop [7] (fun s7 => ∃ k : Nat, k ≤ n ∧ s7 = .int .i64 (k : Int) ∧ Hid (∀ (t : Nat) x, t < k → l[t]? = some x → x.2.1 < lo)) (fun s7 => n - (intOf s7).toNat)
  case atStart => exact ⟨0, by omega, rfl, Lib.hid (fun t x h => absurd h (by omega))⟩
  case round =>
    obtain ⟨k, hk, rfl, Hk⟩ := hrel
    by_cases hstop : k < n ∧ ∃ x, l[k]? = some x ∧ x.2.1 < lo
    · obtain ⟨hlt, x, hx, hxlo⟩ := hstop
      obtain ⟨ad, lo', hi', v, rfl, hadb, hxl, c0, c1, c2⟩ := HR.out.span hlt
      rw [hxl] at hx
      injection hx with hx
      subst hx
      simp only at hxlo
      have hki : (k : Int) < (n : Int) := by omega
      have HK := Lib.hid (show ∀ (t : Nat) x, t < k + 1 → l[t]? = some x → x.2.1 < lo from fun t x ht hx => by
        rcases Nat.lt_or_eq_of_le (Nat.le_of_lt_succ ht) with h | h
        · exact Hk.out t x h hx
        · subst h; rw [hxl] at hx; injection hx with hx; subst hx; exact hxlo)
      clear hxl
      go_wp2
      go_round
      case rel => exact ⟨k + 1, by omega, by go_num, HK⟩
      case measure => simp [intOf]; omega
    · by_cases hlt : k < n
      · obtain ⟨ad, lo', hi', v, hA, hadb, hxl, c0, c1, c2⟩ := HR.out.span hlt
        have hno : ¬ hi' < lo := fun h => hstop ⟨hlt, _, hxl, h⟩
        have hki : (k : Int) < (n : Int) := by omega
        subst hA
        clear hxl hstop
        go_wp2
        clear c0 c1 c2 hno hki hadb hlt
        go_loop [8] (fun s8 => ∃ j : Nat, k ≤ j ∧ j ≤ n ∧ s8 = .int .i64 (j : Int)) (fun s8 => n - (intOf s8).toNat)
        case atStart => exact ⟨k, Nat.le_refl _, hk, rfl⟩
        case round =>
          obtain ⟨j, hkj, hj, rfl⟩ := hrel
          by_cases hst : j < n ∧ ∃ x, l[j]? = some x ∧ x.1 ≤ hi
          · obtain ⟨hlt2, x, hx, hxhi⟩ := hst
            obtain ⟨ad, lo', hi', v, hA2, hadb, hxl, c0, c1, c2⟩ := HR.out.span hlt2
            (try injection hA2 with hA2)
            subst hA2
            rw [hxl] at hx
            injection hx with hx
            subst hx
            simp only at hxhi
            have hji : (j : Int) < (n : Int) := by omega
            clear hxl
            go_wp2
            go_round
            case rel => exact ⟨j + 1, by omega, by omega, by go_num⟩
            case measure => simp [intOf]; omega
          · by_cases hlt2 : j < n
            · obtain ⟨ad, lo', hi', v, hA2, hadb, hxl, c0, c1, c2⟩ := HR.out.span hlt2
              (try injection hA2 with hA2)
              subst hA2
              have hno2 : ¬ lo' ≤ hi := fun h => hst ⟨hlt2, _, hxl, h⟩
              have hji : (j : Int) < (n : Int) := by omega
              have Hxl := Lib.hid hxl
              clear hxl hst
              have HN := Lib.hid (near_of Hs.out hkj Hk.out (fun x hx => by rw [Hxl.out] at hx; injection hx with hx; subst hx; simp only; omega) : Near l ((l.drop k).take (j - k)) lo hi)
              have hrp := reads_part3 HR.out hkj (by omega) hc
              have hjc : j ≤ c := by omega
              have hkj0 : (k : Int) ≤ (j : Int) := by omega
              have hce : ¬ c = k := by omega
              rw [if_neg hce] at hrp
              have HR2 := Lib.hid hrp
              clear hrp
              go_wp2
              go_ret
              exact ⟨⟨_, j - k, c - k, _, rfl, HR2.out, by omega, by omega, HN.out⟩, rfl⟩
            · have hjn : j = n := by omega
              subst hjn
              have hji : ¬ (j : Int) < (j : Int) := by omega
              have HN := Lib.hid (near_of Hs.out hkj Hk.out (fun x hx => absurd (List.getElem?_eq_some_iff.1 hx).1 (by have := Hl.out; omega)) : Near l ((l.drop k).take (j - k)) lo hi)
              have hrp := reads_part3 HR.out hkj (by omega) hc
              have hkj0 : (k : Int) ≤ (j : Int) := by omega
              clear hst
              by_cases hce : c = k
              · rw [if_pos hce] at hrp
                have HR2 := Lib.hid hrp
                clear hrp
                have hkj2 : k = j := by omega
                subst hkj2
                subst hce
                go_wp2
                go_ret
                exact ⟨⟨_, c - c, c - c, _, by rw [Nat.sub_self]; rfl, HR2.out, by omega, by omega, HN.out⟩, rfl⟩
              · rw [if_neg hce] at hrp
                have HR2 := Lib.hid hrp
                clear hrp
                go_wp2
                go_ret
                exact ⟨⟨_, j - k, c - k, _, rfl, HR2.out, by omega, by omega, HN.out⟩, rfl⟩
      · have hki : ¬ (k : Int) < (n : Int) := by omega
        clear hstop
        go_wp2
        clear hki hlt
        go_loop [8] (fun s8 => ∃ j : Nat, k ≤ j ∧ j ≤ n ∧ s8 = .int .i64 (j : Int)) (fun s8 => n - (intOf s8).toNat)
        case atStart => exact ⟨k, Nat.le_refl _, hk, rfl⟩
        case round =>
          obtain ⟨j, hkj, hj, rfl⟩ := hrel
          by_cases hst : j < n ∧ ∃ x, l[j]? = some x ∧ x.1 ≤ hi
          · obtain ⟨hlt2, x, hx, hxhi⟩ := hst
            obtain ⟨ad, lo', hi', v, hA2, hadb, hxl, c0, c1, c2⟩ := HR.out.span hlt2
            (try injection hA2 with hA2)
            subst hA2
            rw [hxl] at hx
            injection hx with hx
            subst hx
            simp only at hxhi
            have hji : (j : Int) < (n : Int) := by omega
            clear hxl
            go_wp2
            go_round
            case rel => exact ⟨j + 1, by omega, by omega, by go_num⟩
            case measure => simp [intOf]; omega
          · by_cases hlt2 : j < n
            · obtain ⟨ad, lo', hi', v, hA2, hadb, hxl, c0, c1, c2⟩ := HR.out.span hlt2
              (try injection hA2 with hA2)
              subst hA2
              have hno2 : ¬ lo' ≤ hi := fun h => hst ⟨hlt2, _, hxl, h⟩
              have hji : (j : Int) < (n : Int) := by omega
              have Hxl := Lib.hid hxl
              clear hxl hst
              have HN := Lib.hid (near_of Hs.out hkj Hk.out (fun x hx => by rw [Hxl.out] at hx; injection hx with hx; subst hx; simp only; omega) : Near l ((l.drop k).take (j - k)) lo hi)
              have hrp := reads_part3 HR.out hkj (by omega) hc
              have hjc : j ≤ c := by omega
              have hkj0 : (k : Int) ≤ (j : Int) := by omega
              have hce : ¬ c = k := by omega
              rw [if_neg hce] at hrp
              have HR2 := Lib.hid hrp
              clear hrp
              go_wp2
              go_ret
              exact ⟨⟨_, j - k, c - k, _, rfl, HR2.out, by omega, by omega, HN.out⟩, rfl⟩
            · have hjn : j = n := by omega
              subst hjn
              have hji : ¬ (j : Int) < (j : Int) := by omega
              have HN := Lib.hid (near_of Hs.out hkj Hk.out (fun x hx => absurd (List.getElem?_eq_some_iff.1 hx).1 (by have := Hl.out; omega)) : Near l ((l.drop k).take (j - k)) lo hi)
              have hrp := reads_part3 HR.out hkj (by omega) hc
              have hkj0 : (k : Int) ≤ (j : Int) := by omega
              clear hst
              by_cases hce : c = k
              · rw [if_pos hce] at hrp
                have HR2 := Lib.hid hrp
                clear hrp
                have hkj2 : k = j := by omega
                subst hkj2
                subst hce
                go_wp2
                go_ret
                exact ⟨⟨_, c - c, c - c, _, by rw [Nat.sub_self]; rfl, HR2.out, by omega, by omega, HN.out⟩, rfl⟩
              · rw [if_neg hce] at hrp
                have HR2 := Lib.hid hrp
                clear hrp
                go_wp2
                go_ret
                exact ⟨⟨_, j - k, c - k, _, rfl, HR2.out, by omega, by omega, HN.out⟩, rfl⟩

/-- what flat says -/
def FlatE (l : List (Int × Int × Int)) (lo hi : Int) (e : Ending) : Prop := ∃ (v : Int) (b : Bool), e = .returned (.tuple #[.int .i64 v, .bool b]) ∧ (b = true → ∀ c, lo ≤ c → c ≤ hi → valF l c = v)
set_option maxRecDepth 100000 in
set_option maxHeartbeats 4000000 in
theorem flat_any (A : Option Addr) (n c : Nat) (l : List (Int × Int × Int)) (lo hi : Int) (w : World) (hr : Reads w w.heap.size 3 A n (l.flatMap spv)) (hn : n ≤ 1000000) :
    Calls Try.prog 54 #[.slice A n c, .int .i64 lo, .int .i64 hi] w fun e w' => FlatE l lo hi e ∧ Below w.heap.size w w' := by
  have hl : l.length = n := by have := hr.1; rw [spv_len] at this; omega
  rcases Nat.eq_zero_or_pos n with hz | hz
  · have hl0 : l = [] := List.eq_nil_of_length_eq_zero (by omega)
    subst hz
    subst hl0
    clear hl
    go_enter Try.func54, Try.ntmps54
    go_wp2
    go_ret2
    exact ⟨⟨0, true, rfl, fun _ c _ _ => rfl⟩, Below.refl _ _⟩
  · obtain ⟨ad, a, b, v, rfl, hadb, hxl, c0, c1, c2⟩ := hr.span hz
    have Hx := Lib.hid hxl
    have hzi : (0 : Int) < (n : Int) := by omega
    have hz0 : ((n : Int) == 0) = false := by simp; omega
    rw [Nat.zero_mul, add_zero_] at c0 c1 c2
    clear hxl hl
    have hval : a ≤ lo → hi ≤ b → ∀ c, lo ≤ c → c ≤ hi → valF l c = v := fun h1 h2 c h3 h4 => valF_hit Hx.out (fun t y ht => absurd ht (by omega)) ⟨by simp only; omega, by simp only; omega⟩
    have HV := Lib.hid hval
    clear hval
    by_cases q1 : a ≤ lo
    · have d1 : decide (a ≤ lo) = true := decide_eq_true q1
      by_cases q2 : hi ≤ b
      · have d2 : decide (hi ≤ b) = true := decide_eq_true q2
        go_enter Try.func54, Try.ntmps54
        go_wp2_with fail
        go_quiet (fail)
        go_wp2
        go_ret2
        exact ⟨⟨v, _, rfl, fun _ => HV.out q1 q2⟩, below_drewN (Below.refl _ _) _⟩
      · have d2 : decide (hi ≤ b) = false := decide_eq_false q2
        go_enter Try.func54, Try.ntmps54
        go_wp2_with fail
        go_quiet (fail)
        go_wp2
        go_ret2
        exact ⟨⟨v, false, rfl, fun h => by cases h⟩, below_drewN (Below.refl _ _) _⟩
    · have d1 : decide (a ≤ lo) = false := decide_eq_false q1
      go_enter Try.func54, Try.ntmps54
      go_wp2_with fail
      go_quiet (fail)
      go_wp2
      go_ret2
      exact ⟨⟨v, false, rfl, fun h => by cases h⟩, below_drewN (Below.refl _ _) _⟩
end Go.Proofs.Ytnlmikefihaldaa

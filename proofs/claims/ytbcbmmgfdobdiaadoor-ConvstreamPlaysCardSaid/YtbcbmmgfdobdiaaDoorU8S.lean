/- utf8text.Step. -/
import Derived.Test.YtbcbmmgfdobdiaaDoorU8
namespace Go.Proofs.YtbcbmmgfdobdiaaDoor
open Go.RowKit

theorem and63 : ∀ x : Fin 256, bits .and .u8 (x.val : Int) 63 = ((x.val % 64 : Nat) : Int) := by decide +kernel
theorem and31 : ∀ x : Fin 256, bits .and .i64 (x.val : Int) 31 = ((x.val % 32 : Nat) : Int) := by decide +kernel
theorem and15 : ∀ x : Fin 256, bits .and .i64 (x.val : Int) 15 = ((x.val % 16 : Nat) : Int) := by decide +kernel
theorem and7 : ∀ x : Fin 256, bits .and .i64 (x.val : Int) 7 = ((x.val % 8 : Nat) : Int) := by decide +kernel
theorem ofInt64 (a : Nat) (ha : a < 9223372036854775808) : (BitVec.ofInt 64 (a : Int)).toNat = a := by
  rw [BitVec.ofInt_natCast, BitVec.toNat_ofNat]; exact Nat.mod_eq_of_lt (by omega)
theorem or64 (a b : Nat) (ha : a < 1000000000) (hb : b < 64) : bits .or .i64 ((a : Int) * 64) (b : Int) = ((64 * a + b : Nat) : Int) := by
  have e : ((a : Int) * 64) = ((a * 64 : Nat) : Int) := by omega
  rw [e]
  show IntKind.i64.wrap ((BitVec.ofInt 64 ((a * 64 : Nat) : Int) ||| BitVec.ofInt 64 (b : Int)).toNat : Int) = _
  rw [BitVec.toNat_or, ofInt64 _ (by omega), ofInt64 _ (by omega), IntKind.wrap_i64]
  have h := Nat.two_pow_add_eq_or_of_lt (i := 6) (b := b) (by omega) a
  have e2 : a * 64 = 2 ^ 6 * a := by omega
  rw [e2, ← h]
  omega
theorem byte8_at {s : List UInt8} {k : Nat} (h : k < s.length) : ∃ x, (⟨s.toArray⟩ : ByteArray)[k].toNat = x ∧ s[k].toNat = x ∧ x < 256 := ⟨_, rfl, rfl, s[k].toNat_lt⟩
theorem pow64 {v k : Nat} (h : v < 64 ^ k) (hk : k ≤ 3) : v < 262144 := by
  have := Nat.pow_le_pow_right (n := 64) (by omega) hk
  omega

def StepRel (s : List UInt8) (n : Nat) (c lo hi i : Value) : Prop :=
  ∃ k v l h : Nat, 1 ≤ k ∧ k ≤ n ∧ k ≤ s.length ∧ l < 256 ∧ h < 256 ∧ 128 ≤ l ∧ h ≤ 191 ∧ c = .int .i64 (v : Int) ∧ lo = .int .u8 (l : Int) ∧ hi = .int .u8 (h : Int) ∧ i = .int .i64 (k : Int) ∧ Hid (v < 64 ^ k) ∧ Hid (step8 s = cont8 (n - k) k v l h (s.drop k))
theorem step_next {s : List UInt8} {n k v l h x : Nat} (hk : k < n) (hlt : k < s.length) (hx : s[k].toNat = x) (h1 : l ≤ x) (h2 : x ≤ h) (he : step8 s = cont8 (n - k) k v l h (s.drop k)) :
    step8 s = cont8 (n - (k + 1)) (k + 1) (64 * v + (x - 128)) 128 191 (s.drop (k + 1)) := by
  rw [he, List.drop_eq_getElem_cons hlt, show n - k = (n - (k + 1)) + 1 by omega, cont8, hx, if_pos ⟨h1, h2⟩]
theorem step_out {s : List UInt8} {n k v l h x : Nat} (hk : k < n) (hlt : k < s.length) (hx : s[k].toNat = x) (h1 : ¬ (l ≤ x ∧ x ≤ h)) (he : step8 s = cont8 (n - k) k v l h (s.drop k)) : step8 s = (0, k, false) := by
  rw [he, List.drop_eq_getElem_cons hlt, show n - k = (n - (k + 1)) + 1 by omega, cont8, hx, if_neg h1]
theorem step_short {s : List UInt8} {n k v l h : Nat} (hk : k < n) (hlt : k = s.length) (he : step8 s = cont8 (n - k) k v l h (s.drop k)) : step8 s = (0, k, false) := by
  rw [he, List.drop_of_length_le (by omega), show n - k = (n - (k + 1)) + 1 by omega, cont8]
theorem step_end {s : List UInt8} {n k v l h : Nat} (hk : k = n) (he : step8 s = cont8 (n - k) k v l h (s.drop k)) : step8 s = (v, k, true) := by
  rw [he, show n - k = 0 by omega, cont8]
theorem ret_step {s : List UInt8} {c n : Nat} {b : Bool} (h : step8 s = (c, n, b)) : Ending.returned (.tuple #[.int .i64 (c : Int), .int .i64 (n : Int), .bool b]) = .returned (.tuple #[.int .i64 ((step8 s).1 : Int), .int .i64 ((step8 s).2.1 : Int), .bool (step8 s).2.2]) := by rw [h]
theorem lead8_of {b : Nat} (h : lead8 b = 2 ∨ lead8 b = 3 ∨ lead8 b = 4) : ¬ b < 128 ∧ more8 b + 1 = lead8 b ∧ more8 b ≠ 0 := by
  unfold lead8 at h ⊢
  by_cases h1 : b < 128
  · rw [if_pos h1] at h; omega
  · rw [if_neg h1] at h ⊢
    by_cases h2 : more8 b = 0
    · rw [if_pos h2] at h; omega
    · rw [if_neg h2]; omega
theorem lo8_bd (b : Nat) : 128 ≤ lo8 b ∧ lo8 b < 256 := by unfold lo8; split; omega; split <;> omega
theorem hi8_bd (b : Nat) : hi8 b ≤ 191 := by unfold hi8; split; omega; split <;> omega

set_option maxRecDepth 100000 in
set_option maxHeartbeats 2000000 in
theorem step8_nil (s : List UInt8) (w : World) (hs : s.length ≤ 1000000) (h0 : s = []) :
    Calls Tryd.prog 128 #[.string ⟨s.toArray⟩] w fun e w' => e = .returned (.tuple #[.int .i64 ((step8 s).1 : Int), .int .i64 ((step8 s).2.1 : Int), .bool (step8 s).2.2]) ∧ w = w' := by
  subst h0
  go_enter Tryd.func128, Tryd.ntmps128
  go_wp2
  exact bodyPost_ret (v := .tuple #[.int .i64 0, .int .i64 0, .bool false]) (by simp [results, Tryd.results128, go_sem]) rfl ⟨rfl, rfl⟩
set_option maxRecDepth 100000 in
set_option maxHeartbeats 2000000 in
theorem step8_zero (s : List UInt8) (w : World) (hs : s.length ≤ 1000000) (h0 : 0 < s.length) (hz : lead8 s[0].toNat = 0) :
    Calls Tryd.prog 128 #[.string ⟨s.toArray⟩] w fun e w' => e = .returned (.tuple #[.int .i64 ((step8 s).1 : Int), .int .i64 ((step8 s).2.1 : Int), .bool (step8 s).2.2]) ∧ w = w' := by
  obtain ⟨b, hb, hb2, hb256⟩ := byte8_at (s := s) (k := 0) h0
  have Hb := Lib.hid hb2
  have hne : s.isEmpty = false := by cases s with
    | nil => simp at h0
    | cons a t => rfl
  have h0' : (0 : Int) < (s.length : Int) := by omega
  have h0d : decide (0 < s.length) = true := by simp; omega
  clear hb2
  have Hz := Lib.hid (show lead8 b = 0 by rw [← Hb.out]; exact hz)
  have H := Lib.hid (show step8 s = (0, 1, false) by
    clear hz
    have hz := Hz.out
    unfold lead8 at hz
    cases s with
    | nil => simp at h0
    | cons a t =>
      have ha : a.toNat = b := Hb.out
      rw [step8, ha]
      by_cases h1 : b < 128
      · rw [if_pos h1] at hz; omega
      · rw [if_neg h1] at hz ⊢
        by_cases h2 : more8 b = 0
        · rw [if_pos h2]
        · rw [if_neg h2] at hz; omega)
  clear hz
  go_enter Tryd.func128, Tryd.ntmps128
  go_wp2_with fail
  refine (lead8_any b _ hb256).mono ?_
  rintro e w1 ⟨rfl, rfl⟩
  rw [Hz.out]
  go_wp2
  exact bodyPost_ret (v := .tuple #[.int .i64 (0 : Int), .int .i64 (1 : Int), .bool false]) (by simp [results, Tryd.results128, go_sem]) rfl ⟨ret_step H.out, rfl⟩
set_option maxRecDepth 100000 in
set_option maxHeartbeats 2000000 in
theorem step8_one (s : List UInt8) (w : World) (hs : s.length ≤ 1000000) (h0 : 0 < s.length) (hz : lead8 s[0].toNat = 1) :
    Calls Tryd.prog 128 #[.string ⟨s.toArray⟩] w fun e w' => e = .returned (.tuple #[.int .i64 ((step8 s).1 : Int), .int .i64 ((step8 s).2.1 : Int), .bool (step8 s).2.2]) ∧ w = w' := by
  obtain ⟨b, hb, hb2, hb256⟩ := byte8_at (s := s) (k := 0) h0
  have Hb := Lib.hid hb2
  have hne : s.isEmpty = false := by cases s with
    | nil => simp at h0
    | cons a t => rfl
  have h0' : (0 : Int) < (s.length : Int) := by omega
  have h0d : decide (0 < s.length) = true := by simp; omega
  clear hb2
  have Hz := Lib.hid (show lead8 b = 1 by rw [← Hb.out]; exact hz)
  have H := Lib.hid (show step8 s = (b, 1, true) by
    clear hz
    have hz := Hz.out
    unfold lead8 at hz
    cases s with
    | nil => simp at h0
    | cons a t =>
      have ha : a.toNat = b := Hb.out
      rw [step8, ha]
      by_cases h1 : b < 128
      · rw [if_pos h1]
      · rw [if_neg h1] at hz
        by_cases h2 : more8 b = 0
        · rw [if_pos h2] at hz; omega
        · rw [if_neg h2] at hz; omega)
  clear hz
  go_enter Tryd.func128, Tryd.ntmps128
  go_wp2_with fail
  refine (lead8_any b _ hb256).mono ?_
  rintro e w1 ⟨rfl, rfl⟩
  rw [Hz.out]
  go_wp2_with fail
  refine (second8_any b _ hb256).mono ?_
  rintro e w1 ⟨rfl, rfl⟩
  go_wp2
  refine wp_loop_rounds 1 ?_
  rw [rounds_succ]
  go_wp2
  exact bodyPost_ret (v := .tuple #[.int .i64 (b : Int), .int .i64 (1 : Int), .bool true]) (by simp [results, Tryd.results128, go_sem]) rfl ⟨ret_step H.out, rfl⟩
set_option maxRecDepth 100000 in
set_option maxHeartbeats 2000000 in
theorem step8_2 (s : List UInt8) (w : World) (hs : s.length ≤ 1000000) (h0 : 0 < s.length) (hz : lead8 s[0].toNat = 2) :
    Calls Tryd.prog 128 #[.string ⟨s.toArray⟩] w fun e w' => e = .returned (.tuple #[.int .i64 ((step8 s).1 : Int), .int .i64 ((step8 s).2.1 : Int), .bool (step8 s).2.2]) ∧ w = w' := by
  obtain ⟨b, hb, hb2, hb256⟩ := byte8_at (s := s) (k := 0) h0
  have Hb := Lib.hid hb2
  have hne : s.isEmpty = false := by cases s with
    | nil => simp at h0
    | cons a t => rfl
  have h0' : (0 : Int) < (s.length : Int) := by omega
  have h0d : decide (0 < s.length) = true := by simp; omega
  clear hb2
  have Hz := Lib.hid (show lead8 b = 2 by rw [← Hb.out]; exact hz)
  have hlb := lo8_bd b
  have hhb := hi8_bd b
  obtain ⟨hlb1, hlb2⟩ := hlb
  have hand := and31 ⟨b, hb256⟩
  simp only at hand
  have H0 := Lib.hid (show step8 s = cont8 (2 - 1) 1 (b % 32) (lo8 b) (hi8 b) (s.drop 1) by
    clear hz
    have hz := lead8_of (b := b) (by rw [Hz.out]; omega)
    rw [Hz.out] at hz
    cases s with
    | nil => simp at h0
    | cons a t =>
      have ha : a.toNat = b := Hb.out
      have hm : more8 b = 1 := by omega
      rw [step8, ha, if_neg hz.1, if_neg hz.2.2, hm]
      rfl)
  clear hz
  generalize hL : lo8 b = L at hlb1 hlb2 H0
  generalize hR : hi8 b = R at hhb H0
  have HL := Lib.hid hL
  have HR := Lib.hid hR
  clear hL hR
  go_enter Tryd.func128, Tryd.ntmps128
  go_wp2_with fail
  refine (lead8_any b _ hb256).mono ?_
  rintro e w1 ⟨rfl, rfl⟩
  rw [Hz.out]
  go_wp2_with fail
  refine (second8_any b _ hb256).mono ?_
  rintro e w1 ⟨rfl, rfl⟩
  rw [HL.out, HR.out]
  clear hand
  go_wp2
  go_loop [6, 7, 8, 9] (fun c lo hi i => StepRel s 2 c lo hi i) (fun _ _ _ i => 2 - (intOf i).toNat)
  case atStart => exact ⟨1, b % 32, L, R, by omega, by omega, by omega, by omega, by omega, hlb1, hhb, rfl, rfl, rfl, rfl, by show b % 32 < 64 ^ 1; omega, H0.out⟩
  case round =>
    obtain ⟨k, v, l, h, hk1, hk2, hk3, hl, hh, hl1, hh1, rfl, rfl, rfl, rfl, hv, he⟩ := hrel
    clear hb
    by_cases hkn : k < 2
    · have hv2 := pow64 hv.out (by omega)
      by_cases hks : k = s.length
      · have H := Lib.hid (step_short hkn hks he.out)
        have hks' : ((k : Int) == (s.length : Int)) = true := by simp; omega
        clear hks
        go_wp2
        exact bodyPost_ret (v := .tuple #[.int .i64 (0 : Int), .int .i64 (k : Int), .bool false]) (by simp [results, Tryd.results128, go_sem]) rfl ⟨ret_step H.out, rfl⟩
      · have hks' : ((k : Int) == (s.length : Int)) = false := by simp; omega
        have hks2 : k < s.length := by omega
        have hks3 : (k : Int) < (s.length : Int) := by omega
        obtain ⟨x, hx, hx2, hx256⟩ := byte8_at hks2
        have Hx := Lib.hid hx2
        clear hx2 hks
        by_cases h1 : l ≤ x
        · by_cases h2 : x ≤ h
          · have hnd := and63 ⟨x, hx256⟩
            simp only at hnd
            have hxm : x % 64 = x - 128 := by omega
            rw [hxm] at hnd
            have hor := or64 v (x - 128) (by omega) (by omega)
            have Hn := Lib.hid (step_next hkn hks2 Hx.out h1 h2 he.out)
            have Hv := Lib.hid (show 64 * v + (x - 128) < 64 ^ (k + 1) by have := hv.out; rw [Nat.pow_succ]; omega)
            generalize 64 * v + (x - 128) = v' at hor Hn Hv
            have hy : x - 128 < 64 := by omega
            generalize x - 128 = y at hor hnd hy
            clear hxm
            go_wp2
            go_round
            case rel => exact ⟨k + 1, v', 128, 191, by omega, by omega, by omega, by omega, by omega, by omega, by omega, rfl, rfl, rfl, by go_num, Hv.out, Hn.out⟩
            case measure => simp [intOf]; omega
          · have H := Lib.hid (step_out hkn hks2 Hx.out (fun g => h2 g.2) he.out)
            go_wp2
            exact bodyPost_ret (v := .tuple #[.int .i64 (0 : Int), .int .i64 (k : Int), .bool false]) (by simp [results, Tryd.results128, go_sem]) rfl ⟨ret_step H.out, rfl⟩
        · have H := Lib.hid (step_out hkn hks2 Hx.out (fun g => h1 g.1) he.out)
          go_wp2
          exact bodyPost_ret (v := .tuple #[.int .i64 (0 : Int), .int .i64 (k : Int), .bool false]) (by simp [results, Tryd.results128, go_sem]) rfl ⟨ret_step H.out, rfl⟩
    · have H := Lib.hid (step_end (show k = 2 by omega) he.out)
      obtain rfl : k = 2 := by omega
      go_wp2
      exact bodyPost_ret (v := .tuple #[.int .i64 (v : Int), .int .i64 (2 : Int), .bool true]) (by simp [results, Tryd.results128, go_sem]) rfl ⟨ret_step H.out, rfl⟩
set_option maxRecDepth 100000 in
set_option maxHeartbeats 2000000 in
theorem step8_3 (s : List UInt8) (w : World) (hs : s.length ≤ 1000000) (h0 : 0 < s.length) (hz : lead8 s[0].toNat = 3) :
    Calls Tryd.prog 128 #[.string ⟨s.toArray⟩] w fun e w' => e = .returned (.tuple #[.int .i64 ((step8 s).1 : Int), .int .i64 ((step8 s).2.1 : Int), .bool (step8 s).2.2]) ∧ w = w' := by
  obtain ⟨b, hb, hb2, hb256⟩ := byte8_at (s := s) (k := 0) h0
  have Hb := Lib.hid hb2
  have hne : s.isEmpty = false := by cases s with
    | nil => simp at h0
    | cons a t => rfl
  have h0' : (0 : Int) < (s.length : Int) := by omega
  have h0d : decide (0 < s.length) = true := by simp; omega
  clear hb2
  have Hz := Lib.hid (show lead8 b = 3 by rw [← Hb.out]; exact hz)
  have hlb := lo8_bd b
  have hhb := hi8_bd b
  obtain ⟨hlb1, hlb2⟩ := hlb
  have hand := and15 ⟨b, hb256⟩
  simp only at hand
  have H0 := Lib.hid (show step8 s = cont8 (3 - 1) 1 (b % 16) (lo8 b) (hi8 b) (s.drop 1) by
    clear hz
    have hz := lead8_of (b := b) (by rw [Hz.out]; omega)
    rw [Hz.out] at hz
    cases s with
    | nil => simp at h0
    | cons a t =>
      have ha : a.toNat = b := Hb.out
      have hm : more8 b = 2 := by omega
      rw [step8, ha, if_neg hz.1, if_neg hz.2.2, hm]
      rfl)
  clear hz
  generalize hL : lo8 b = L at hlb1 hlb2 H0
  generalize hR : hi8 b = R at hhb H0
  have HL := Lib.hid hL
  have HR := Lib.hid hR
  clear hL hR
  go_enter Tryd.func128, Tryd.ntmps128
  go_wp2_with fail
  refine (lead8_any b _ hb256).mono ?_
  rintro e w1 ⟨rfl, rfl⟩
  rw [Hz.out]
  go_wp2_with fail
  refine (second8_any b _ hb256).mono ?_
  rintro e w1 ⟨rfl, rfl⟩
  rw [HL.out, HR.out]
  clear hand
  go_wp2
  go_loop [6, 7, 8, 9] (fun c lo hi i => StepRel s 3 c lo hi i) (fun _ _ _ i => 3 - (intOf i).toNat)
  case atStart => exact ⟨1, b % 16, L, R, by omega, by omega, by omega, by omega, by omega, hlb1, hhb, rfl, rfl, rfl, rfl, by show b % 16 < 64 ^ 1; omega, H0.out⟩
  case round =>
    obtain ⟨k, v, l, h, hk1, hk2, hk3, hl, hh, hl1, hh1, rfl, rfl, rfl, rfl, hv, he⟩ := hrel
    clear hb
    by_cases hkn : k < 3
    · have hv2 := pow64 hv.out (by omega)
      by_cases hks : k = s.length
      · have H := Lib.hid (step_short hkn hks he.out)
        have hks' : ((k : Int) == (s.length : Int)) = true := by simp; omega
        clear hks
        go_wp2
        exact bodyPost_ret (v := .tuple #[.int .i64 (0 : Int), .int .i64 (k : Int), .bool false]) (by simp [results, Tryd.results128, go_sem]) rfl ⟨ret_step H.out, rfl⟩
      · have hks' : ((k : Int) == (s.length : Int)) = false := by simp; omega
        have hks2 : k < s.length := by omega
        have hks3 : (k : Int) < (s.length : Int) := by omega
        obtain ⟨x, hx, hx2, hx256⟩ := byte8_at hks2
        have Hx := Lib.hid hx2
        clear hx2 hks
        by_cases h1 : l ≤ x
        · by_cases h2 : x ≤ h
          · have hnd := and63 ⟨x, hx256⟩
            simp only at hnd
            have hxm : x % 64 = x - 128 := by omega
            rw [hxm] at hnd
            have hor := or64 v (x - 128) (by omega) (by omega)
            have Hn := Lib.hid (step_next hkn hks2 Hx.out h1 h2 he.out)
            have Hv := Lib.hid (show 64 * v + (x - 128) < 64 ^ (k + 1) by have := hv.out; rw [Nat.pow_succ]; omega)
            generalize 64 * v + (x - 128) = v' at hor Hn Hv
            have hy : x - 128 < 64 := by omega
            generalize x - 128 = y at hor hnd hy
            clear hxm
            go_wp2
            go_round
            case rel => exact ⟨k + 1, v', 128, 191, by omega, by omega, by omega, by omega, by omega, by omega, by omega, rfl, rfl, rfl, by go_num, Hv.out, Hn.out⟩
            case measure => simp [intOf]; omega
          · have H := Lib.hid (step_out hkn hks2 Hx.out (fun g => h2 g.2) he.out)
            go_wp2
            exact bodyPost_ret (v := .tuple #[.int .i64 (0 : Int), .int .i64 (k : Int), .bool false]) (by simp [results, Tryd.results128, go_sem]) rfl ⟨ret_step H.out, rfl⟩
        · have H := Lib.hid (step_out hkn hks2 Hx.out (fun g => h1 g.1) he.out)
          go_wp2
          exact bodyPost_ret (v := .tuple #[.int .i64 (0 : Int), .int .i64 (k : Int), .bool false]) (by simp [results, Tryd.results128, go_sem]) rfl ⟨ret_step H.out, rfl⟩
    · have H := Lib.hid (step_end (show k = 3 by omega) he.out)
      obtain rfl : k = 3 := by omega
      go_wp2
      exact bodyPost_ret (v := .tuple #[.int .i64 (v : Int), .int .i64 (3 : Int), .bool true]) (by simp [results, Tryd.results128, go_sem]) rfl ⟨ret_step H.out, rfl⟩
set_option maxRecDepth 100000 in
set_option maxHeartbeats 2000000 in
theorem step8_4 (s : List UInt8) (w : World) (hs : s.length ≤ 1000000) (h0 : 0 < s.length) (hz : lead8 s[0].toNat = 4) :
    Calls Tryd.prog 128 #[.string ⟨s.toArray⟩] w fun e w' => e = .returned (.tuple #[.int .i64 ((step8 s).1 : Int), .int .i64 ((step8 s).2.1 : Int), .bool (step8 s).2.2]) ∧ w = w' := by
  obtain ⟨b, hb, hb2, hb256⟩ := byte8_at (s := s) (k := 0) h0
  have Hb := Lib.hid hb2
  have hne : s.isEmpty = false := by cases s with
    | nil => simp at h0
    | cons a t => rfl
  have h0' : (0 : Int) < (s.length : Int) := by omega
  have h0d : decide (0 < s.length) = true := by simp; omega
  clear hb2
  have Hz := Lib.hid (show lead8 b = 4 by rw [← Hb.out]; exact hz)
  have hlb := lo8_bd b
  have hhb := hi8_bd b
  obtain ⟨hlb1, hlb2⟩ := hlb
  have hand := and7 ⟨b, hb256⟩
  simp only at hand
  have H0 := Lib.hid (show step8 s = cont8 (4 - 1) 1 (b % 8) (lo8 b) (hi8 b) (s.drop 1) by
    clear hz
    have hz := lead8_of (b := b) (by rw [Hz.out]; omega)
    rw [Hz.out] at hz
    cases s with
    | nil => simp at h0
    | cons a t =>
      have ha : a.toNat = b := Hb.out
      have hm : more8 b = 3 := by omega
      rw [step8, ha, if_neg hz.1, if_neg hz.2.2, hm]
      rfl)
  clear hz
  generalize hL : lo8 b = L at hlb1 hlb2 H0
  generalize hR : hi8 b = R at hhb H0
  have HL := Lib.hid hL
  have HR := Lib.hid hR
  clear hL hR
  go_enter Tryd.func128, Tryd.ntmps128
  go_wp2_with fail
  refine (lead8_any b _ hb256).mono ?_
  rintro e w1 ⟨rfl, rfl⟩
  rw [Hz.out]
  go_wp2_with fail
  refine (second8_any b _ hb256).mono ?_
  rintro e w1 ⟨rfl, rfl⟩
  rw [HL.out, HR.out]
  clear hand
  go_wp2
  go_loop [6, 7, 8, 9] (fun c lo hi i => StepRel s 4 c lo hi i) (fun _ _ _ i => 4 - (intOf i).toNat)
  case atStart => exact ⟨1, b % 8, L, R, by omega, by omega, by omega, by omega, by omega, hlb1, hhb, rfl, rfl, rfl, rfl, by show b % 8 < 64 ^ 1; omega, H0.out⟩
  case round =>
    obtain ⟨k, v, l, h, hk1, hk2, hk3, hl, hh, hl1, hh1, rfl, rfl, rfl, rfl, hv, he⟩ := hrel
    clear hb
    by_cases hkn : k < 4
    · have hv2 := pow64 hv.out (by omega)
      by_cases hks : k = s.length
      · have H := Lib.hid (step_short hkn hks he.out)
        have hks' : ((k : Int) == (s.length : Int)) = true := by simp; omega
        clear hks
        go_wp2
        exact bodyPost_ret (v := .tuple #[.int .i64 (0 : Int), .int .i64 (k : Int), .bool false]) (by simp [results, Tryd.results128, go_sem]) rfl ⟨ret_step H.out, rfl⟩
      · have hks' : ((k : Int) == (s.length : Int)) = false := by simp; omega
        have hks2 : k < s.length := by omega
        have hks3 : (k : Int) < (s.length : Int) := by omega
        obtain ⟨x, hx, hx2, hx256⟩ := byte8_at hks2
        have Hx := Lib.hid hx2
        clear hx2 hks
        by_cases h1 : l ≤ x
        · by_cases h2 : x ≤ h
          · have hnd := and63 ⟨x, hx256⟩
            simp only at hnd
            have hxm : x % 64 = x - 128 := by omega
            rw [hxm] at hnd
            have hor := or64 v (x - 128) (by omega) (by omega)
            have Hn := Lib.hid (step_next hkn hks2 Hx.out h1 h2 he.out)
            have Hv := Lib.hid (show 64 * v + (x - 128) < 64 ^ (k + 1) by have := hv.out; rw [Nat.pow_succ]; omega)
            generalize 64 * v + (x - 128) = v' at hor Hn Hv
            have hy : x - 128 < 64 := by omega
            generalize x - 128 = y at hor hnd hy
            clear hxm
            go_wp2
            go_round
            case rel => exact ⟨k + 1, v', 128, 191, by omega, by omega, by omega, by omega, by omega, by omega, by omega, rfl, rfl, rfl, by go_num, Hv.out, Hn.out⟩
            case measure => simp [intOf]; omega
          · have H := Lib.hid (step_out hkn hks2 Hx.out (fun g => h2 g.2) he.out)
            go_wp2
            exact bodyPost_ret (v := .tuple #[.int .i64 (0 : Int), .int .i64 (k : Int), .bool false]) (by simp [results, Tryd.results128, go_sem]) rfl ⟨ret_step H.out, rfl⟩
        · have H := Lib.hid (step_out hkn hks2 Hx.out (fun g => h1 g.1) he.out)
          go_wp2
          exact bodyPost_ret (v := .tuple #[.int .i64 (0 : Int), .int .i64 (k : Int), .bool false]) (by simp [results, Tryd.results128, go_sem]) rfl ⟨ret_step H.out, rfl⟩
    · have H := Lib.hid (step_end (show k = 4 by omega) he.out)
      obtain rfl : k = 4 := by omega
      go_wp2
      exact bodyPost_ret (v := .tuple #[.int .i64 (v : Int), .int .i64 (4 : Int), .bool true]) (by simp [results, Tryd.results128, go_sem]) rfl ⟨ret_step H.out, rfl⟩
theorem step8_any (s : List UInt8) (w : World) (hs : s.length ≤ 1000000) :
    Calls Tryd.prog 128 #[.string ⟨s.toArray⟩] w fun e w' => e = .returned (.tuple #[.int .i64 ((step8 s).1 : Int), .int .i64 ((step8 s).2.1 : Int), .bool (step8 s).2.2]) ∧ w = w' := by
  by_cases h0 : s = []
  · exact step8_nil s w hs h0
  · have h1 : 0 < s.length := List.length_pos_iff.2 h0
    rcases lead8_cases s[0].toNat with ⟨_, h⟩ | ⟨_, _, h⟩ | ⟨_, _, h⟩ | ⟨_, _, h⟩ | ⟨_, _, h⟩ | ⟨_, h⟩
    · exact step8_one s w hs h1 h
    · exact step8_zero s w hs h1 h
    · exact step8_2 s w hs h1 h
    · exact step8_3 s w hs h1 h
    · exact step8_4 s w hs h1 h
    · exact step8_zero s w hs h1 h
theorem step8H (s : List UInt8) (c n : Nat) (b : Bool) (w : World) (hs : s.length ≤ 1000000) (hR : step8 s = (c, n, b)) :
    Calls Tryd.prog 128 #[.string ⟨s.toArray⟩] w fun e w' => e = .returned (.tuple #[.int .i64 (c : Int), .int .i64 (n : Int), .bool b]) ∧ w = w' :=
  (step8_any s w hs).mono fun e w' ⟨h1, h2⟩ => ⟨by rw [h1, hR], h2⟩
end Go.Proofs.YtbcbmmgfdobdiaaDoor

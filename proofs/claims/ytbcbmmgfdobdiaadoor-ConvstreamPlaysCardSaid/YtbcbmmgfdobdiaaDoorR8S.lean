/- The reference's lead and Step of layer 3. -/
import Derived.Test.YtbcbmmgfdobdiaaDoorU8S
namespace Go.Proofs.YtbcbmmgfdobdiaaDoor
open Go.RowKit

theorem rlead_cases (b : Nat) : (194 ≤ b ∧ b ≤ 223 ∧ more8 b = 1 ∧ lo8 b = 128 ∧ hi8 b = 191) ∨ (b = 224 ∧ more8 b = 2 ∧ lo8 b = 160 ∧ hi8 b = 191) ∨ (b = 237 ∧ more8 b = 2 ∧ lo8 b = 128 ∧ hi8 b = 159) ∨
    (225 ≤ b ∧ b ≤ 239 ∧ b ≠ 237 ∧ more8 b = 2 ∧ lo8 b = 128 ∧ hi8 b = 191) ∨ (b = 240 ∧ more8 b = 3 ∧ lo8 b = 144 ∧ hi8 b = 191) ∨ (241 ≤ b ∧ b ≤ 243 ∧ more8 b = 3 ∧ lo8 b = 128 ∧ hi8 b = 191) ∨
    (b = 244 ∧ more8 b = 3 ∧ lo8 b = 128 ∧ hi8 b = 143) ∨ (b < 194 ∧ more8 b = 0) ∨ (244 < b ∧ more8 b = 0) := by
  unfold more8 lo8 hi8
  by_cases h1 : 194 ≤ b ∧ b ≤ 223
  · left; rw [if_pos h1, if_neg (by omega), if_neg (by omega), if_neg (by omega), if_neg (by omega)]; omega
  · by_cases h2 : b = 224
    · subst h2; simp
    · by_cases h3 : b = 237
      · subst h3; simp
      · by_cases h4 : 225 ≤ b ∧ b ≤ 239
        · right; right; right; left
          rw [if_neg h1, if_pos (by omega), if_neg (by omega), if_neg (by omega), if_neg (by omega), if_neg (by omega)]; omega
        · by_cases h5 : b = 240
          · subst h5; simp
          · by_cases h6 : 241 ≤ b ∧ b ≤ 243
            · right; right; right; right; right; left
              rw [if_neg h1, if_neg (by omega), if_pos (by omega), if_neg (by omega), if_neg (by omega), if_neg (by omega), if_neg (by omega)]; omega
            · by_cases h7 : b = 244
              · subst h7; simp
              · refine .inr (.inr (.inr (.inr (.inr (.inr (.inr ?_))))))
                rw [if_neg h1, if_neg (by omega), if_neg (by omega)]
                simp only [and_true]; omega
set_option maxRecDepth 100000 in
set_option maxHeartbeats 2000000 in
theorem rlead_some (b m l h : Nat) (w : World) (hm : more8 b = m) (hl : lo8 b = l) (hh : hi8 b = h) (h0 : m ≠ 0) : Calls Tryd.prog 69 #[.int .i64 (b : Int)] w fun e w' => e = .returned (.tuple #[.int .i64 (m : Int), .int .i64 (l : Int), .int .i64 (h : Int)]) ∧ w = w' := by
  rcases rlead_cases b with ⟨h1, h2, a, c, d⟩ | ⟨rfl, a, c, d⟩ | ⟨rfl, a, c, d⟩ | ⟨h1, h2, h3, a, c, d⟩ | ⟨rfl, a, c, d⟩ | ⟨h1, h2, a, c, d⟩ | ⟨rfl, a, c, d⟩ | ⟨h1, a⟩ | ⟨h1, a⟩
  · obtain ⟨rfl, rfl, rfl⟩ : m = 1 ∧ l = 128 ∧ h = 191 := by omega
    clear hm hl hh a c d
    go_enter Tryd.func69, Tryd.ntmps69
    go_wp2
    exact bodyPost_ret (v := .tuple #[.int .i64 1, .int .i64 128, .int .i64 191]) (by simp [results, Tryd.results69, go_sem]) rfl ⟨rfl, rfl⟩
  · obtain ⟨rfl, rfl, rfl⟩ : m = 2 ∧ l = 160 ∧ h = 191 := by omega
    clear hm hl hh a c d
    go_enter Tryd.func69, Tryd.ntmps69
    go_wp2
    exact bodyPost_ret (v := .tuple #[.int .i64 2, .int .i64 160, .int .i64 191]) (by simp [results, Tryd.results69, go_sem]) rfl ⟨rfl, rfl⟩
  · obtain ⟨rfl, rfl, rfl⟩ : m = 2 ∧ l = 128 ∧ h = 159 := by omega
    clear hm hl hh a c d
    go_enter Tryd.func69, Tryd.ntmps69
    go_wp2
    exact bodyPost_ret (v := .tuple #[.int .i64 2, .int .i64 128, .int .i64 159]) (by simp [results, Tryd.results69, go_sem]) rfl ⟨rfl, rfl⟩
  · obtain ⟨rfl, rfl, rfl⟩ : m = 2 ∧ l = 128 ∧ h = 191 := by omega
    have e1 : ((b : Int) == 224) = false := by simp; omega
    have e2 : ((b : Int) == 237) = false := by simp; omega
    clear hm hl hh a c d h3
    go_enter Tryd.func69, Tryd.ntmps69
    go_wp2
    exact bodyPost_ret (v := .tuple #[.int .i64 2, .int .i64 128, .int .i64 191]) (by simp [results, Tryd.results69, go_sem]) rfl ⟨rfl, rfl⟩
  · obtain ⟨rfl, rfl, rfl⟩ : m = 3 ∧ l = 144 ∧ h = 191 := by omega
    clear hm hl hh a c d
    go_enter Tryd.func69, Tryd.ntmps69
    go_wp2
    exact bodyPost_ret (v := .tuple #[.int .i64 3, .int .i64 144, .int .i64 191]) (by simp [results, Tryd.results69, go_sem]) rfl ⟨rfl, rfl⟩
  · obtain ⟨rfl, rfl, rfl⟩ : m = 3 ∧ l = 128 ∧ h = 191 := by omega
    have e1 : ((b : Int) == 224) = false := by simp; omega
    have e2 : ((b : Int) == 237) = false := by simp; omega
    have e3 : ((b : Int) == 240) = false := by simp; omega
    clear hm hl hh a c d
    go_enter Tryd.func69, Tryd.ntmps69
    go_wp2
    exact bodyPost_ret (v := .tuple #[.int .i64 3, .int .i64 128, .int .i64 191]) (by simp [results, Tryd.results69, go_sem]) rfl ⟨rfl, rfl⟩
  · obtain ⟨rfl, rfl, rfl⟩ : m = 3 ∧ l = 128 ∧ h = 143 := by omega
    clear hm hl hh a c d
    go_enter Tryd.func69, Tryd.ntmps69
    go_wp2
    exact bodyPost_ret (v := .tuple #[.int .i64 3, .int .i64 128, .int .i64 143]) (by simp [results, Tryd.results69, go_sem]) rfl ⟨rfl, rfl⟩
  · omega
  · omega
set_option maxRecDepth 100000 in
set_option maxHeartbeats 2000000 in
theorem rlead_none (b : Nat) (w : World) (hm : more8 b = 0) : Calls Tryd.prog 69 #[.int .i64 (b : Int)] w fun e w' => e = .returned (.tuple #[.int .i64 0, .int .i64 0, .int .i64 0]) ∧ w = w' := by
  have hb : b < 194 ∨ 244 < b := by have := rlead_cases b; omega
  have e1 : ((b : Int) == 224) = false := by simp; omega
  have e2 : ((b : Int) == 237) = false := by simp; omega
  have e3 : ((b : Int) == 240) = false := by simp; omega
  have e4 : ((b : Int) == 244) = false := by simp; omega
  clear hm
  rcases hb with hb | hb
  all_goals
    go_enter Tryd.func69, Tryd.ntmps69
    go_wp2
    exact bodyPost_ret (v := .tuple #[.int .i64 0, .int .i64 0, .int .i64 0]) (by simp [results, Tryd.results69, go_sem]) rfl ⟨rfl, rfl⟩

def RStepRel (s : List UInt8) (n : Nat) (lo hi c i : Value) : Prop :=
  ∃ k v l h : Nat, 1 ≤ k ∧ k ≤ n ∧ k ≤ s.length ∧ l < 256 ∧ h < 256 ∧ 128 ≤ l ∧ h ≤ 191 ∧ c = .int .i64 (v : Int) ∧ lo = .int .i64 (l : Int) ∧ hi = .int .i64 (h : Int) ∧ i = .int .i64 (k : Int) ∧ Hid (v < 64 ^ k) ∧ Hid (step8 s = cont8 (n - k) k v l h (s.drop k))

set_option maxRecDepth 100000 in
set_option maxHeartbeats 2000000 in
theorem rstep8_nil (s : List UInt8) (w : World) (hs : s.length ≤ 1000000) (h0 : s = []) :
    Calls Tryd.prog 49 #[.string ⟨s.toArray⟩] w fun e w' => e = .returned (.tuple #[.int .i64 ((step8 s).1 : Int), .int .i64 ((step8 s).2.1 : Int), .bool (step8 s).2.2]) ∧ w = w' := by
  subst h0
  go_enter Tryd.func49, Tryd.ntmps49
  go_wp2
  exact bodyPost_ret (v := .tuple #[.int .i64 0, .int .i64 0, .bool false]) (by simp [results, Tryd.results49, go_sem]) rfl ⟨rfl, rfl⟩
set_option maxRecDepth 100000 in
set_option maxHeartbeats 2000000 in
theorem rstep8_one (s : List UInt8) (w : World) (hs : s.length ≤ 1000000) (h0 : 0 < s.length) (hz : s[0].toNat < 128) :
    Calls Tryd.prog 49 #[.string ⟨s.toArray⟩] w fun e w' => e = .returned (.tuple #[.int .i64 ((step8 s).1 : Int), .int .i64 ((step8 s).2.1 : Int), .bool (step8 s).2.2]) ∧ w = w' := by
  obtain ⟨b, hb, hb2, hb256⟩ := byte8_at (s := s) (k := 0) h0
  have Hb := Lib.hid hb2
  have hne : s.isEmpty = false := by cases s with
    | nil => simp at h0
    | cons a t => rfl
  have h0' : (0 : Int) < (s.length : Int) := by omega
  have h0d : decide (0 < s.length) = true := by simp; omega
  clear hb2
  have hz2 : b < 128 := by rw [← Hb.out]; exact hz
  have H := Lib.hid (show step8 s = (b, 1, true) by
    clear hz
    cases s with
    | nil => simp at h0
    | cons a t =>
      have ha : a.toNat = b := Hb.out
      rw [step8, ha, if_pos hz2])
  clear hz
  go_enter Tryd.func49, Tryd.ntmps49
  go_wp2
  exact bodyPost_ret (v := .tuple #[.int .i64 (b : Int), .int .i64 (1 : Int), .bool true]) (by simp [results, Tryd.results49, go_sem]) rfl ⟨ret_step H.out, rfl⟩
set_option maxRecDepth 100000 in
set_option maxHeartbeats 2000000 in
theorem rstep8_zero (s : List UInt8) (w : World) (hs : s.length ≤ 1000000) (h0 : 0 < s.length) (hz : ¬ s[0].toNat < 128) (hm : more8 s[0].toNat = 0) :
    Calls Tryd.prog 49 #[.string ⟨s.toArray⟩] w fun e w' => e = .returned (.tuple #[.int .i64 ((step8 s).1 : Int), .int .i64 ((step8 s).2.1 : Int), .bool (step8 s).2.2]) ∧ w = w' := by
  obtain ⟨b, hb, hb2, hb256⟩ := byte8_at (s := s) (k := 0) h0
  have Hb := Lib.hid hb2
  have hne : s.isEmpty = false := by cases s with
    | nil => simp at h0
    | cons a t => rfl
  have h0' : (0 : Int) < (s.length : Int) := by omega
  have h0d : decide (0 < s.length) = true := by simp; omega
  clear hb2
  have hz2 : ¬ b < 128 := by rw [← Hb.out]; exact hz
  have Hm := Lib.hid (show more8 b = 0 by rw [← Hb.out]; exact hm)
  have H := Lib.hid (show step8 s = (0, 1, false) by
    clear hz hm
    cases s with
    | nil => simp at h0
    | cons a t =>
      have ha : a.toNat = b := Hb.out
      rw [step8, ha, if_neg hz2, if_pos Hm.out])
  clear hz hm
  go_enter Tryd.func49, Tryd.ntmps49
  go_wp2_with fail
  refine (rlead_none b _ Hm.out).mono ?_
  rintro e w1 ⟨rfl, rfl⟩
  go_wp2
  exact bodyPost_ret (v := .tuple #[.int .i64 (0 : Int), .int .i64 (1 : Int), .bool false]) (by simp [results, Tryd.results49, go_sem]) rfl ⟨ret_step H.out, rfl⟩
set_option maxRecDepth 100000 in
set_option maxHeartbeats 2000000 in
theorem rstep8_2 (s : List UInt8) (w : World) (hs : s.length ≤ 1000000) (h0 : 0 < s.length) (hz : ¬ s[0].toNat < 128) (hm : more8 s[0].toNat = 1) :
    Calls Tryd.prog 49 #[.string ⟨s.toArray⟩] w fun e w' => e = .returned (.tuple #[.int .i64 ((step8 s).1 : Int), .int .i64 ((step8 s).2.1 : Int), .bool (step8 s).2.2]) ∧ w = w' := by
  obtain ⟨b, hb, hb2, hb256⟩ := byte8_at (s := s) (k := 0) h0
  have Hb := Lib.hid hb2
  have hne : s.isEmpty = false := by cases s with
    | nil => simp at h0
    | cons a t => rfl
  have h0' : (0 : Int) < (s.length : Int) := by omega
  have h0d : decide (0 < s.length) = true := by simp; omega
  clear hb2
  have hz2 : ¬ b < 128 := by rw [← Hb.out]; exact hz
  have Hm := Lib.hid (show more8 b = 1 by rw [← Hb.out]; exact hm)
  have hlb := lo8_bd b
  have hhb := hi8_bd b
  obtain ⟨hlb1, hlb2⟩ := hlb
  have H0 := Lib.hid (show step8 s = cont8 (2 - 1) 1 (b % 32) (lo8 b) (hi8 b) (s.drop 1) by
    clear hz hm
    cases s with
    | nil => simp at h0
    | cons a t =>
      have ha : a.toNat = b := Hb.out
      rw [step8, ha, if_neg hz2, if_neg (by rw [Hm.out]; omega), Hm.out]
      rfl)
  clear hz hm
  generalize hL : lo8 b = L at hlb1 hlb2 H0
  generalize hR : hi8 b = R at hhb H0
  have HL := Lib.hid hL
  have HR := Lib.hid hR
  clear hL hR
  go_enter Tryd.func49, Tryd.ntmps49
  go_wp2_with fail
  refine (rlead_some b 1 L R _ Hm.out HL.out HR.out (by omega)).mono ?_
  rintro e w1 ⟨rfl, rfl⟩
  go_wp2
  go_loop [7, 8, 9, 10] (fun lo hi c i => RStepRel s 2 lo hi c i) (fun _ _ _ i => 2 - (intOf i).toNat)
  case atStart => exact ⟨1, b % 32, L, R, by omega, by omega, by omega, by omega, by omega, hlb1, hhb, rfl, rfl, rfl, rfl, by show b % 32 < 64 ^ 1; omega, H0.out⟩
  case round =>
    obtain ⟨k, v, l, h, hk1, hk2, hk3, hl, hh, hl1, hh1, rfl, rfl, rfl, rfl, hv, he⟩ := hrel
    clear hb
    by_cases hkn : k < 2
    · have hv2 := pow64 hv.out (by omega)
      by_cases hks : k = s.length
      · have H := Lib.hid (step_short hkn hks he.out)
        have hks' : ((k : Int) == (s.length : Int)) = true := by simp; omega
        clear hks
        go_wp2
        exact bodyPost_ret (v := .tuple #[.int .i64 (0 : Int), .int .i64 (k : Int), .bool false]) (by simp [results, Tryd.results49, go_sem]) rfl ⟨ret_step H.out, rfl⟩
      · have hks' : ((k : Int) == (s.length : Int)) = false := by simp; omega
        have hks2 : k < s.length := by omega
        have hks3 : (k : Int) < (s.length : Int) := by omega
        obtain ⟨x, hx, hx2, hx256⟩ := byte8_at hks2
        have Hx := Lib.hid hx2
        clear hx2 hks
        by_cases h1 : l ≤ x
        · by_cases h2 : x ≤ h
          · have Hn := Lib.hid (step_next hkn hks2 Hx.out h1 h2 he.out)
            have Hv := Lib.hid (show 64 * v + (x - 128) < 64 ^ (k + 1) by have := hv.out; rw [Nat.pow_succ]; omega)
            have Hval := Lib.hid (show 64 * (v : Int) + (x : Int) - 128 = ((64 * v + (x - 128) : Nat) : Int) by omega)
            generalize 64 * v + (x - 128) = v' at Hval Hn Hv
            go_wp2
            go_round
            case rel => exact ⟨k + 1, v', 128, 191, by omega, by omega, by omega, by omega, by omega, by omega, by omega, by rw [Hval.out], rfl, rfl, by go_num, Hv.out, Hn.out⟩
            case measure => simp [intOf]; omega
          · have H := Lib.hid (step_out hkn hks2 Hx.out (fun g => h2 g.2) he.out)
            go_wp2
            exact bodyPost_ret (v := .tuple #[.int .i64 (0 : Int), .int .i64 (k : Int), .bool false]) (by simp [results, Tryd.results49, go_sem]) rfl ⟨ret_step H.out, rfl⟩
        · have H := Lib.hid (step_out hkn hks2 Hx.out (fun g => h1 g.1) he.out)
          go_wp2
          exact bodyPost_ret (v := .tuple #[.int .i64 (0 : Int), .int .i64 (k : Int), .bool false]) (by simp [results, Tryd.results49, go_sem]) rfl ⟨ret_step H.out, rfl⟩
    · have H := Lib.hid (step_end (show k = 2 by omega) he.out)
      obtain rfl : k = 2 := by omega
      go_wp2
      exact bodyPost_ret (v := .tuple #[.int .i64 (v : Int), .int .i64 (2 : Int), .bool true]) (by simp [results, Tryd.results49, go_sem]) rfl ⟨ret_step H.out, rfl⟩
set_option maxRecDepth 100000 in
set_option maxHeartbeats 2000000 in
theorem rstep8_3 (s : List UInt8) (w : World) (hs : s.length ≤ 1000000) (h0 : 0 < s.length) (hz : ¬ s[0].toNat < 128) (hm : more8 s[0].toNat = 2) :
    Calls Tryd.prog 49 #[.string ⟨s.toArray⟩] w fun e w' => e = .returned (.tuple #[.int .i64 ((step8 s).1 : Int), .int .i64 ((step8 s).2.1 : Int), .bool (step8 s).2.2]) ∧ w = w' := by
  obtain ⟨b, hb, hb2, hb256⟩ := byte8_at (s := s) (k := 0) h0
  have Hb := Lib.hid hb2
  have hne : s.isEmpty = false := by cases s with
    | nil => simp at h0
    | cons a t => rfl
  have h0' : (0 : Int) < (s.length : Int) := by omega
  have h0d : decide (0 < s.length) = true := by simp; omega
  clear hb2
  have hz2 : ¬ b < 128 := by rw [← Hb.out]; exact hz
  have Hm := Lib.hid (show more8 b = 2 by rw [← Hb.out]; exact hm)
  have hlb := lo8_bd b
  have hhb := hi8_bd b
  obtain ⟨hlb1, hlb2⟩ := hlb
  have H0 := Lib.hid (show step8 s = cont8 (3 - 1) 1 (b % 16) (lo8 b) (hi8 b) (s.drop 1) by
    clear hz hm
    cases s with
    | nil => simp at h0
    | cons a t =>
      have ha : a.toNat = b := Hb.out
      rw [step8, ha, if_neg hz2, if_neg (by rw [Hm.out]; omega), Hm.out]
      rfl)
  clear hz hm
  generalize hL : lo8 b = L at hlb1 hlb2 H0
  generalize hR : hi8 b = R at hhb H0
  have HL := Lib.hid hL
  have HR := Lib.hid hR
  clear hL hR
  go_enter Tryd.func49, Tryd.ntmps49
  go_wp2_with fail
  refine (rlead_some b 2 L R _ Hm.out HL.out HR.out (by omega)).mono ?_
  rintro e w1 ⟨rfl, rfl⟩
  go_wp2
  go_loop [7, 8, 9, 10] (fun lo hi c i => RStepRel s 3 lo hi c i) (fun _ _ _ i => 3 - (intOf i).toNat)
  case atStart => exact ⟨1, b % 16, L, R, by omega, by omega, by omega, by omega, by omega, hlb1, hhb, rfl, rfl, rfl, rfl, by show b % 16 < 64 ^ 1; omega, H0.out⟩
  case round =>
    obtain ⟨k, v, l, h, hk1, hk2, hk3, hl, hh, hl1, hh1, rfl, rfl, rfl, rfl, hv, he⟩ := hrel
    clear hb
    by_cases hkn : k < 3
    · have hv2 := pow64 hv.out (by omega)
      by_cases hks : k = s.length
      · have H := Lib.hid (step_short hkn hks he.out)
        have hks' : ((k : Int) == (s.length : Int)) = true := by simp; omega
        clear hks
        go_wp2
        exact bodyPost_ret (v := .tuple #[.int .i64 (0 : Int), .int .i64 (k : Int), .bool false]) (by simp [results, Tryd.results49, go_sem]) rfl ⟨ret_step H.out, rfl⟩
      · have hks' : ((k : Int) == (s.length : Int)) = false := by simp; omega
        have hks2 : k < s.length := by omega
        have hks3 : (k : Int) < (s.length : Int) := by omega
        obtain ⟨x, hx, hx2, hx256⟩ := byte8_at hks2
        have Hx := Lib.hid hx2
        clear hx2 hks
        by_cases h1 : l ≤ x
        · by_cases h2 : x ≤ h
          · have Hn := Lib.hid (step_next hkn hks2 Hx.out h1 h2 he.out)
            have Hv := Lib.hid (show 64 * v + (x - 128) < 64 ^ (k + 1) by have := hv.out; rw [Nat.pow_succ]; omega)
            have Hval := Lib.hid (show 64 * (v : Int) + (x : Int) - 128 = ((64 * v + (x - 128) : Nat) : Int) by omega)
            generalize 64 * v + (x - 128) = v' at Hval Hn Hv
            go_wp2
            go_round
            case rel => exact ⟨k + 1, v', 128, 191, by omega, by omega, by omega, by omega, by omega, by omega, by omega, by rw [Hval.out], rfl, rfl, by go_num, Hv.out, Hn.out⟩
            case measure => simp [intOf]; omega
          · have H := Lib.hid (step_out hkn hks2 Hx.out (fun g => h2 g.2) he.out)
            go_wp2
            exact bodyPost_ret (v := .tuple #[.int .i64 (0 : Int), .int .i64 (k : Int), .bool false]) (by simp [results, Tryd.results49, go_sem]) rfl ⟨ret_step H.out, rfl⟩
        · have H := Lib.hid (step_out hkn hks2 Hx.out (fun g => h1 g.1) he.out)
          go_wp2
          exact bodyPost_ret (v := .tuple #[.int .i64 (0 : Int), .int .i64 (k : Int), .bool false]) (by simp [results, Tryd.results49, go_sem]) rfl ⟨ret_step H.out, rfl⟩
    · have H := Lib.hid (step_end (show k = 3 by omega) he.out)
      obtain rfl : k = 3 := by omega
      go_wp2
      exact bodyPost_ret (v := .tuple #[.int .i64 (v : Int), .int .i64 (3 : Int), .bool true]) (by simp [results, Tryd.results49, go_sem]) rfl ⟨ret_step H.out, rfl⟩
set_option maxRecDepth 100000 in
set_option maxHeartbeats 2000000 in
theorem rstep8_4 (s : List UInt8) (w : World) (hs : s.length ≤ 1000000) (h0 : 0 < s.length) (hz : ¬ s[0].toNat < 128) (hm : more8 s[0].toNat = 3) :
    Calls Tryd.prog 49 #[.string ⟨s.toArray⟩] w fun e w' => e = .returned (.tuple #[.int .i64 ((step8 s).1 : Int), .int .i64 ((step8 s).2.1 : Int), .bool (step8 s).2.2]) ∧ w = w' := by
  obtain ⟨b, hb, hb2, hb256⟩ := byte8_at (s := s) (k := 0) h0
  have Hb := Lib.hid hb2
  have hne : s.isEmpty = false := by cases s with
    | nil => simp at h0
    | cons a t => rfl
  have h0' : (0 : Int) < (s.length : Int) := by omega
  have h0d : decide (0 < s.length) = true := by simp; omega
  clear hb2
  have hz2 : ¬ b < 128 := by rw [← Hb.out]; exact hz
  have Hm := Lib.hid (show more8 b = 3 by rw [← Hb.out]; exact hm)
  have hlb := lo8_bd b
  have hhb := hi8_bd b
  obtain ⟨hlb1, hlb2⟩ := hlb
  have H0 := Lib.hid (show step8 s = cont8 (4 - 1) 1 (b % 8) (lo8 b) (hi8 b) (s.drop 1) by
    clear hz hm
    cases s with
    | nil => simp at h0
    | cons a t =>
      have ha : a.toNat = b := Hb.out
      rw [step8, ha, if_neg hz2, if_neg (by rw [Hm.out]; omega), Hm.out]
      rfl)
  clear hz hm
  generalize hL : lo8 b = L at hlb1 hlb2 H0
  generalize hR : hi8 b = R at hhb H0
  have HL := Lib.hid hL
  have HR := Lib.hid hR
  clear hL hR
  go_enter Tryd.func49, Tryd.ntmps49
  go_wp2_with fail
  refine (rlead_some b 3 L R _ Hm.out HL.out HR.out (by omega)).mono ?_
  rintro e w1 ⟨rfl, rfl⟩
  go_wp2
  go_loop [7, 8, 9, 10] (fun lo hi c i => RStepRel s 4 lo hi c i) (fun _ _ _ i => 4 - (intOf i).toNat)
  case atStart => exact ⟨1, b % 8, L, R, by omega, by omega, by omega, by omega, by omega, hlb1, hhb, rfl, rfl, rfl, rfl, by show b % 8 < 64 ^ 1; omega, H0.out⟩
  case round =>
    obtain ⟨k, v, l, h, hk1, hk2, hk3, hl, hh, hl1, hh1, rfl, rfl, rfl, rfl, hv, he⟩ := hrel
    clear hb
    by_cases hkn : k < 4
    · have hv2 := pow64 hv.out (by omega)
      by_cases hks : k = s.length
      · have H := Lib.hid (step_short hkn hks he.out)
        have hks' : ((k : Int) == (s.length : Int)) = true := by simp; omega
        clear hks
        go_wp2
        exact bodyPost_ret (v := .tuple #[.int .i64 (0 : Int), .int .i64 (k : Int), .bool false]) (by simp [results, Tryd.results49, go_sem]) rfl ⟨ret_step H.out, rfl⟩
      · have hks' : ((k : Int) == (s.length : Int)) = false := by simp; omega
        have hks2 : k < s.length := by omega
        have hks3 : (k : Int) < (s.length : Int) := by omega
        obtain ⟨x, hx, hx2, hx256⟩ := byte8_at hks2
        have Hx := Lib.hid hx2
        clear hx2 hks
        by_cases h1 : l ≤ x
        · by_cases h2 : x ≤ h
          · have Hn := Lib.hid (step_next hkn hks2 Hx.out h1 h2 he.out)
            have Hv := Lib.hid (show 64 * v + (x - 128) < 64 ^ (k + 1) by have := hv.out; rw [Nat.pow_succ]; omega)
            have Hval := Lib.hid (show 64 * (v : Int) + (x : Int) - 128 = ((64 * v + (x - 128) : Nat) : Int) by omega)
            generalize 64 * v + (x - 128) = v' at Hval Hn Hv
            go_wp2
            go_round
            case rel => exact ⟨k + 1, v', 128, 191, by omega, by omega, by omega, by omega, by omega, by omega, by omega, by rw [Hval.out], rfl, rfl, by go_num, Hv.out, Hn.out⟩
            case measure => simp [intOf]; omega
          · have H := Lib.hid (step_out hkn hks2 Hx.out (fun g => h2 g.2) he.out)
            go_wp2
            exact bodyPost_ret (v := .tuple #[.int .i64 (0 : Int), .int .i64 (k : Int), .bool false]) (by simp [results, Tryd.results49, go_sem]) rfl ⟨ret_step H.out, rfl⟩
        · have H := Lib.hid (step_out hkn hks2 Hx.out (fun g => h1 g.1) he.out)
          go_wp2
          exact bodyPost_ret (v := .tuple #[.int .i64 (0 : Int), .int .i64 (k : Int), .bool false]) (by simp [results, Tryd.results49, go_sem]) rfl ⟨ret_step H.out, rfl⟩
    · have H := Lib.hid (step_end (show k = 4 by omega) he.out)
      obtain rfl : k = 4 := by omega
      go_wp2
      exact bodyPost_ret (v := .tuple #[.int .i64 (v : Int), .int .i64 (4 : Int), .bool true]) (by simp [results, Tryd.results49, go_sem]) rfl ⟨ret_step H.out, rfl⟩
theorem rstep8_any (s : List UInt8) (w : World) (hs : s.length ≤ 1000000) :
    Calls Tryd.prog 49 #[.string ⟨s.toArray⟩] w fun e w' => e = .returned (.tuple #[.int .i64 ((step8 s).1 : Int), .int .i64 ((step8 s).2.1 : Int), .bool (step8 s).2.2]) ∧ w = w' := by
  by_cases h0 : s = []
  · exact rstep8_nil s w hs h0
  · have h1 : 0 < s.length := List.length_pos_iff.2 h0
    by_cases h2 : s[0].toNat < 128
    · exact rstep8_one s w hs h1 h2
    · have hle := more8_le s[0].toNat
      have hc : more8 s[0].toNat = 0 ∨ more8 s[0].toNat = 1 ∨ more8 s[0].toNat = 2 ∨ more8 s[0].toNat = 3 := by omega
      rcases hc with h | h | h | h
      · exact rstep8_zero s w hs h1 h2 h
      · exact rstep8_2 s w hs h1 h2 h
      · exact rstep8_3 s w hs h1 h2 h
      · exact rstep8_4 s w hs h1 h2 h
theorem rstep8H (s : List UInt8) (c n : Nat) (b : Bool) (w : World) (hs : s.length ≤ 1000000) (hR : step8 s = (c, n, b)) :
    Calls Tryd.prog 49 #[.string ⟨s.toArray⟩] w fun e w' => e = .returned (.tuple #[.int .i64 (c : Int), .int .i64 (n : Int), .bool b]) ∧ w = w' :=
  (rstep8_any s w hs).mono fun e w' ⟨h1, h2⟩ => ⟨by rw [h1, hR], h2⟩
end Go.Proofs.YtbcbmmgfdobdiaaDoor

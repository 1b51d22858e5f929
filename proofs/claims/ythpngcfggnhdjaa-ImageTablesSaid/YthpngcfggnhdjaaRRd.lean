/- The reference's read of layer 15: a number at the beginning of a string. -/
import Derived.Test.YthpngcfggnhdjaaPool
import Derived.Outline
namespace Go.Proofs.Ythpngcfggnhdjaa
open Go.RowKit Go.Proofs.Img

def pw : Nat → Nat
  | 0 => 1
  | n + 1 => 128 * pw n
theorem pw_eq (n : Nat) : pw n = 128 ^ n := by
  induction n with
  | zero => rfl
  | succ n ih => rw [pw, ih, Nat.pow_succ, Nat.mul_comm]
def nv : Except Int (Int × Nat) → Value
  | .error c => .tuple #[.int .i64 0, .int .i64 0, .int .i64 c]
  | .ok (x, k) => .tuple #[.int .i64 x, .int .i64 (k : Int), .int .i64 0]
def RRel (l : List UInt8) (u t i : Value) : Prop :=
  ∃ k U : Nat, k ≤ 9 ∧ k ≤ l.length ∧ U < pw k ∧ u = .int .u64 (U : Int) ∧ t = .int .u64 (pw k : Int) ∧ i = .int .i64 (k : Int) ∧ Hid (rd 10 0 0 l = rd (10 - k) k U (l.drop k))
theorem rr_short {l : List UInt8} {k U : Nat} (hk : k ≤ 9) (he : rd 10 0 0 l = rd (10 - k) k U (l.drop k)) (h : k = l.length) : readN l = .error 2 := by
  rw [readN, he, List.drop_of_length_le (by omega), show 10 - k = (9 - k) + 1 by omega, rd]
theorem rr_at {l : List UInt8} {k U x : Nat} (hk : k ≤ 9) (hlt : k < l.length) (hx : l[k].toNat = x) (he : rd 10 0 0 l = rd (10 - k) k U (l.drop k)) : rd 10 0 0 l =
    if (k = 9 ∧ x ≠ 1) ∨ (0 < k ∧ x = 0) then .error 3 else if x < 128 then .ok (U + x % 128 * 128 ^ k, k + 1) else rd (10 - (k + 1)) (k + 1) (U + x % 128 * 128 ^ k) (l.drop (k + 1)) := by
  rw [he, List.drop_eq_getElem_cons hlt, show 10 - k = (10 - (k + 1)) + 1 by omega, rd, hx]
theorem rr_bad {l : List UInt8} {k U x : Nat} (hk : k ≤ 9) (hlt : k < l.length) (hx : l[k].toNat = x) (he : rd 10 0 0 l = rd (10 - k) k U (l.drop k)) (hb : (k = 9 ∧ x ≠ 1) ∨ (0 < k ∧ x = 0)) : readN l = .error 3 := by
  rw [readN, rr_at hk hlt hx he, if_pos hb]
theorem rr_end {l : List UInt8} {k U x : Nat} (hk : k ≤ 9) (hlt : k < l.length) (hx : l[k].toNat = x) (he : rd 10 0 0 l = rd (10 - k) k U (l.drop k)) (hb : ¬ ((k = 9 ∧ x ≠ 1) ∨ (0 < k ∧ x = 0))) (h : x < 128) : readN l = .ok (unzig (U + x * pw k), k + 1) := by
  rw [readN, rr_at hk hlt hx he, if_neg hb, if_pos h, pw_eq, Nat.mod_eq_of_lt h]
theorem rr_next {l : List UInt8} {k U x : Nat} (hk : k ≤ 9) (hlt : k < l.length) (hx : l[k].toNat = x) (he : rd 10 0 0 l = rd (10 - k) k U (l.drop k)) (hb : ¬ ((k = 9 ∧ x ≠ 1) ∨ (0 < k ∧ x = 0))) (h : ¬ x < 128) : rd 10 0 0 l = rd (10 - (k + 1)) (k + 1) (U + x % 128 * pw k) (l.drop (k + 1)) := by
  rw [rr_at hk hlt hx he, if_neg hb, if_neg h, pw_eq]
theorem unzig_e (u : Nat) (h : u % 2 = 0) : unzig u = ((u / 2 : Nat) : Int) := by unfold unzig; rw [if_neg (by omega)]
theorem unzig_o (u : Nat) (h : u % 2 = 1) : unzig u = -((u / 2 : Nat) : Int) - 1 := by unfold unzig; rw [if_pos h]
theorem ret_nv {l : List UInt8} {y : Int} {k : Nat} {a b : Int} (h : readN l = .ok (y, k)) (ha : a = y) (hb : b = (k : Int)) : Ending.returned (.tuple #[.int .i64 a, .int .i64 b, .int .i64 0]) = .returned (nv (readN l)) := by rw [h, ha, hb]; rfl
theorem vint {k : IntKind} {a b : Int} (h : a = b) : Value.int k a = .int k b := by rw [h]
theorem byteP {s : List UInt8} {k : Nat} (h : k < s.length) : ∃ x, (⟨s.toArray⟩ : ByteArray)[k].toNat = x ∧ s[k].toNat = x ∧ x < 256 := ⟨_, rfl, rfl, s[k].toNat_lt⟩

set_option maxRecDepth 100000 in
set_option maxHeartbeats 8000000 in
theorem refread_any (l : List UInt8) (w : World) (hl : l.length ≤ 1000000) :
    Calls Try.prog 57 #[.string ⟨l.toArray⟩] w fun e w' => e = .returned (nv (readN l)) ∧ w = w' := by
  go_enter Try.func57, Try.ntmps57
  go_wp2
  go_loop [5, 6, 7] (fun u t i => RRel l u t i) (fun _ _ i => 10 - (intOf i).toNat)
  case atStart => exact ⟨0, 0, by omega, by omega, by decide, rfl, rfl, rfl, rfl⟩
  case round =>
    obtain ⟨k, U, hk, hkl, hU, rfl, rfl, rfl, he⟩ := hrel
    by_cases hs : k = l.length
    · have H := Lib.hid (rr_short hk he.out hs)
      have hs' : ((k : Int) == (l.length : Int)) = true := by simp; omega
      have hk10 : (k : Int) < 10 := by omega
      clear hs hU
      go_wp2
      exact bodyPost_ret (v := .tuple #[.int .i64 0, .int .i64 0, .int .i64 2]) (by simp [results, Try.results57, go_sem]) rfl ⟨by rw [H.out]; rfl, rfl⟩
    · have hlt : k < l.length := by omega
      have hs' : ((k : Int) == (l.length : Int)) = false := by simp; omega
      obtain ⟨x, hx, hx2, hx256⟩ := byteP hlt
      have Hx := Lib.hid hx2
      clear hx2 hs
      have hcase : k = 0 ∨ k = 1 ∨ k = 2 ∨ k = 3 ∨ k = 4 ∨ k = 5 ∨ k = 6 ∨ k = 7 ∨ k = 8 ∨ k = 9 := by omega
      rcases hcase with rfl | rfl | rfl | rfl | rfl | rfl | rfl | rfl | rfl | rfl
      · have hpw : pw 0 = 1 := by decide
        rw [hpw] at hU ⊢
        by_cases h128 : x < 128
        · by_cases hx0 : x = 0
          · subst hx0
            have Hr := Lib.hid (show readN l = .ok (unzig (U + 0 * 1), 0 + 1) by have := rr_end (by omega) hlt Hx.out he.out (by omega) h128; rw [hpw] at this; exact this)
            have hev : (U + 0 * 1) % 2 = 0 := by omega
            have H := Lib.hid (show readN l = .ok ((((U + 0 * 1) / 2 : Nat) : Int), 0 + 1) by rw [Hr.out, unzig_e _ hev])
            have ht : (((U : Int)) % 2 == 1) = false := by simp; omega
            clear hpw
            go_wp2
            exact bodyPost_ret (v := .tuple #[.int .i64 (((U : Int)) / 2), .int .i64 1, .int .i64 0]) (by simp [results, Try.results57, go_sem]) rfl ⟨ret_nv H.out (by omega) (by omega), rfl⟩
          · have hx0' : ((x : Int) == 0) = false := by simp; omega
            have Hr := Lib.hid (show readN l = .ok (unzig (U + x * 1), 0 + 1) by have := rr_end (by omega) hlt Hx.out he.out (by omega) h128; rw [hpw] at this; exact this)
            by_cases hev : (U + x * 1) % 2 = 0
            · have H := Lib.hid (show readN l = .ok ((((U + x * 1) / 2 : Nat) : Int), 0 + 1) by rw [Hr.out, unzig_e _ hev])
              have ht : (((U : Int) + (x : Int) % 128) % 2 == 1) = false := by simp; omega
              clear hpw
              go_wp2
              exact bodyPost_ret (v := .tuple #[.int .i64 (((U : Int) + (x : Int) % 128) / 2), .int .i64 1, .int .i64 0]) (by simp [results, Try.results57, go_sem]) rfl ⟨ret_nv H.out (by omega) (by omega), rfl⟩
            · have H := Lib.hid (show readN l = .ok (-(((U + x * 1) / 2 : Nat) : Int) - 1, 0 + 1) by rw [Hr.out, unzig_o _ (by omega)])
              have ht : (((U : Int) + (x : Int) % 128) % 2 == 1) = true := by simp; omega
              clear hpw
              go_wp2
              exact bodyPost_ret (v := .tuple #[.int .i64 (-(((U : Int) + (x : Int) % 128) / 2) - 1), .int .i64 1, .int .i64 0]) (by simp [results, Try.results57, go_sem]) rfl ⟨ret_nv H.out (by omega) (by omega), rfl⟩
        · have hpw2 : pw 1 = 128 := by decide
          have Hn := Lib.hid (show rd 10 0 0 l = rd (10 - (0 + 1)) (0 + 1) (U + x % 128 * 1) (l.drop (0 + 1)) by have := rr_next (by omega) hlt Hx.out he.out (by omega) h128; rw [hpw] at this; exact this)
          have HN := Lib.hid (show U + x % 128 * 1 < pw (0 + 1) by rw [hpw2]; omega)
          have HP := Lib.hid hpw2
          clear hpw hpw2
          go_wp2
          go_round
          case rel => exact ⟨0 + 1, U + x % 128 * 1, by omega, by omega, HN.out, vint (by omega), vint (by rw [HP.out]; rfl), rfl, Hn.out⟩
          case measure => simp [intOf]
      · have hpw : pw 1 = 128 := by decide
        rw [hpw] at hU ⊢
        by_cases h128 : x < 128
        · by_cases hx0 : x = 0
          · subst hx0
            have H := Lib.hid (rr_bad (by omega) hlt Hx.out he.out (by omega))
            clear hpw
            go_wp2
            exact bodyPost_ret (v := .tuple #[.int .i64 0, .int .i64 0, .int .i64 3]) (by simp [results, Try.results57, go_sem]) rfl ⟨by rw [H.out]; rfl, rfl⟩
          · have hx0' : ((x : Int) == 0) = false := by simp; omega
            have Hr := Lib.hid (show readN l = .ok (unzig (U + x * 128), 1 + 1) by have := rr_end (by omega) hlt Hx.out he.out (by omega) h128; rw [hpw] at this; exact this)
            by_cases hev : (U + x * 128) % 2 = 0
            · have H := Lib.hid (show readN l = .ok ((((U + x * 128) / 2 : Nat) : Int), 1 + 1) by rw [Hr.out, unzig_e _ hev])
              have ht : (((U : Int) + (x : Int) % 128 * 128) % 2 == 1) = false := by simp; omega
              clear hpw
              go_wp2
              exact bodyPost_ret (v := .tuple #[.int .i64 (((U : Int) + (x : Int) % 128 * 128) / 2), .int .i64 2, .int .i64 0]) (by simp [results, Try.results57, go_sem]) rfl ⟨ret_nv H.out (by omega) (by omega), rfl⟩
            · have H := Lib.hid (show readN l = .ok (-(((U + x * 128) / 2 : Nat) : Int) - 1, 1 + 1) by rw [Hr.out, unzig_o _ (by omega)])
              have ht : (((U : Int) + (x : Int) % 128 * 128) % 2 == 1) = true := by simp; omega
              clear hpw
              go_wp2
              exact bodyPost_ret (v := .tuple #[.int .i64 (-(((U : Int) + (x : Int) % 128 * 128) / 2) - 1), .int .i64 2, .int .i64 0]) (by simp [results, Try.results57, go_sem]) rfl ⟨ret_nv H.out (by omega) (by omega), rfl⟩
        · have hpw2 : pw 2 = 16384 := by decide
          have Hn := Lib.hid (show rd 10 0 0 l = rd (10 - (1 + 1)) (1 + 1) (U + x % 128 * 128) (l.drop (1 + 1)) by have := rr_next (by omega) hlt Hx.out he.out (by omega) h128; rw [hpw] at this; exact this)
          have HN := Lib.hid (show U + x % 128 * 128 < pw (1 + 1) by rw [hpw2]; omega)
          have HP := Lib.hid hpw2
          clear hpw hpw2
          go_wp2
          go_round
          case rel => exact ⟨1 + 1, U + x % 128 * 128, by omega, by omega, HN.out, vint (by omega), vint (by rw [HP.out]; rfl), rfl, Hn.out⟩
          case measure => simp [intOf]
      · have hpw : pw 2 = 16384 := by decide
        rw [hpw] at hU ⊢
        by_cases h128 : x < 128
        · by_cases hx0 : x = 0
          · subst hx0
            have H := Lib.hid (rr_bad (by omega) hlt Hx.out he.out (by omega))
            clear hpw
            go_wp2
            exact bodyPost_ret (v := .tuple #[.int .i64 0, .int .i64 0, .int .i64 3]) (by simp [results, Try.results57, go_sem]) rfl ⟨by rw [H.out]; rfl, rfl⟩
          · have hx0' : ((x : Int) == 0) = false := by simp; omega
            have Hr := Lib.hid (show readN l = .ok (unzig (U + x * 16384), 2 + 1) by have := rr_end (by omega) hlt Hx.out he.out (by omega) h128; rw [hpw] at this; exact this)
            by_cases hev : (U + x * 16384) % 2 = 0
            · have H := Lib.hid (show readN l = .ok ((((U + x * 16384) / 2 : Nat) : Int), 2 + 1) by rw [Hr.out, unzig_e _ hev])
              have ht : (((U : Int) + (x : Int) % 128 * 16384) % 2 == 1) = false := by simp; omega
              clear hpw
              go_wp2
              exact bodyPost_ret (v := .tuple #[.int .i64 (((U : Int) + (x : Int) % 128 * 16384) / 2), .int .i64 3, .int .i64 0]) (by simp [results, Try.results57, go_sem]) rfl ⟨ret_nv H.out (by omega) (by omega), rfl⟩
            · have H := Lib.hid (show readN l = .ok (-(((U + x * 16384) / 2 : Nat) : Int) - 1, 2 + 1) by rw [Hr.out, unzig_o _ (by omega)])
              have ht : (((U : Int) + (x : Int) % 128 * 16384) % 2 == 1) = true := by simp; omega
              clear hpw
              go_wp2
              exact bodyPost_ret (v := .tuple #[.int .i64 (-(((U : Int) + (x : Int) % 128 * 16384) / 2) - 1), .int .i64 3, .int .i64 0]) (by simp [results, Try.results57, go_sem]) rfl ⟨ret_nv H.out (by omega) (by omega), rfl⟩
        · have hpw2 : pw 3 = 2097152 := by decide
          have Hn := Lib.hid (show rd 10 0 0 l = rd (10 - (2 + 1)) (2 + 1) (U + x % 128 * 16384) (l.drop (2 + 1)) by have := rr_next (by omega) hlt Hx.out he.out (by omega) h128; rw [hpw] at this; exact this)
          have HN := Lib.hid (show U + x % 128 * 16384 < pw (2 + 1) by rw [hpw2]; omega)
          have HP := Lib.hid hpw2
          clear hpw hpw2
          go_wp2
          go_round
          case rel => exact ⟨2 + 1, U + x % 128 * 16384, by omega, by omega, HN.out, vint (by omega), vint (by rw [HP.out]; rfl), rfl, Hn.out⟩
          case measure => simp [intOf]
      · have hpw : pw 3 = 2097152 := by decide
        rw [hpw] at hU ⊢
        by_cases h128 : x < 128
        · by_cases hx0 : x = 0
          · subst hx0
            have H := Lib.hid (rr_bad (by omega) hlt Hx.out he.out (by omega))
            clear hpw
            go_wp2
            exact bodyPost_ret (v := .tuple #[.int .i64 0, .int .i64 0, .int .i64 3]) (by simp [results, Try.results57, go_sem]) rfl ⟨by rw [H.out]; rfl, rfl⟩
          · have hx0' : ((x : Int) == 0) = false := by simp; omega
            have Hr := Lib.hid (show readN l = .ok (unzig (U + x * 2097152), 3 + 1) by have := rr_end (by omega) hlt Hx.out he.out (by omega) h128; rw [hpw] at this; exact this)
            by_cases hev : (U + x * 2097152) % 2 = 0
            · have H := Lib.hid (show readN l = .ok ((((U + x * 2097152) / 2 : Nat) : Int), 3 + 1) by rw [Hr.out, unzig_e _ hev])
              have ht : (((U : Int) + (x : Int) % 128 * 2097152) % 2 == 1) = false := by simp; omega
              clear hpw
              go_wp2
              exact bodyPost_ret (v := .tuple #[.int .i64 (((U : Int) + (x : Int) % 128 * 2097152) / 2), .int .i64 4, .int .i64 0]) (by simp [results, Try.results57, go_sem]) rfl ⟨ret_nv H.out (by omega) (by omega), rfl⟩
            · have H := Lib.hid (show readN l = .ok (-(((U + x * 2097152) / 2 : Nat) : Int) - 1, 3 + 1) by rw [Hr.out, unzig_o _ (by omega)])
              have ht : (((U : Int) + (x : Int) % 128 * 2097152) % 2 == 1) = true := by simp; omega
              clear hpw
              go_wp2
              exact bodyPost_ret (v := .tuple #[.int .i64 (-(((U : Int) + (x : Int) % 128 * 2097152) / 2) - 1), .int .i64 4, .int .i64 0]) (by simp [results, Try.results57, go_sem]) rfl ⟨ret_nv H.out (by omega) (by omega), rfl⟩
        · have hpw2 : pw 4 = 268435456 := by decide
          have Hn := Lib.hid (show rd 10 0 0 l = rd (10 - (3 + 1)) (3 + 1) (U + x % 128 * 2097152) (l.drop (3 + 1)) by have := rr_next (by omega) hlt Hx.out he.out (by omega) h128; rw [hpw] at this; exact this)
          have HN := Lib.hid (show U + x % 128 * 2097152 < pw (3 + 1) by rw [hpw2]; omega)
          have HP := Lib.hid hpw2
          clear hpw hpw2
          go_wp2
          go_round
          case rel => exact ⟨3 + 1, U + x % 128 * 2097152, by omega, by omega, HN.out, vint (by omega), vint (by rw [HP.out]; rfl), rfl, Hn.out⟩
          case measure => simp [intOf]
      · have hpw : pw 4 = 268435456 := by decide
        rw [hpw] at hU ⊢
        by_cases h128 : x < 128
        · by_cases hx0 : x = 0
          · subst hx0
            have H := Lib.hid (rr_bad (by omega) hlt Hx.out he.out (by omega))
            clear hpw
            go_wp2
            exact bodyPost_ret (v := .tuple #[.int .i64 0, .int .i64 0, .int .i64 3]) (by simp [results, Try.results57, go_sem]) rfl ⟨by rw [H.out]; rfl, rfl⟩
          · have hx0' : ((x : Int) == 0) = false := by simp; omega
            have Hr := Lib.hid (show readN l = .ok (unzig (U + x * 268435456), 4 + 1) by have := rr_end (by omega) hlt Hx.out he.out (by omega) h128; rw [hpw] at this; exact this)
            by_cases hev : (U + x * 268435456) % 2 = 0
            · have H := Lib.hid (show readN l = .ok ((((U + x * 268435456) / 2 : Nat) : Int), 4 + 1) by rw [Hr.out, unzig_e _ hev])
              have ht : (((U : Int) + (x : Int) % 128 * 268435456) % 2 == 1) = false := by simp; omega
              clear hpw
              go_wp2
              exact bodyPost_ret (v := .tuple #[.int .i64 (((U : Int) + (x : Int) % 128 * 268435456) / 2), .int .i64 5, .int .i64 0]) (by simp [results, Try.results57, go_sem]) rfl ⟨ret_nv H.out (by omega) (by omega), rfl⟩
            · have H := Lib.hid (show readN l = .ok (-(((U + x * 268435456) / 2 : Nat) : Int) - 1, 4 + 1) by rw [Hr.out, unzig_o _ (by omega)])
              have ht : (((U : Int) + (x : Int) % 128 * 268435456) % 2 == 1) = true := by simp; omega
              clear hpw
              go_wp2
              exact bodyPost_ret (v := .tuple #[.int .i64 (-(((U : Int) + (x : Int) % 128 * 268435456) / 2) - 1), .int .i64 5, .int .i64 0]) (by simp [results, Try.results57, go_sem]) rfl ⟨ret_nv H.out (by omega) (by omega), rfl⟩
        · have hpw2 : pw 5 = 34359738368 := by decide
          have Hn := Lib.hid (show rd 10 0 0 l = rd (10 - (4 + 1)) (4 + 1) (U + x % 128 * 268435456) (l.drop (4 + 1)) by have := rr_next (by omega) hlt Hx.out he.out (by omega) h128; rw [hpw] at this; exact this)
          have HN := Lib.hid (show U + x % 128 * 268435456 < pw (4 + 1) by rw [hpw2]; omega)
          have HP := Lib.hid hpw2
          clear hpw hpw2
          go_wp2
          go_round
          case rel => exact ⟨4 + 1, U + x % 128 * 268435456, by omega, by omega, HN.out, vint (by omega), vint (by rw [HP.out]; rfl), rfl, Hn.out⟩
          case measure => simp [intOf]
      · have hpw : pw 5 = 34359738368 := by decide
        rw [hpw] at hU ⊢
        by_cases h128 : x < 128
        · by_cases hx0 : x = 0
          · subst hx0
            have H := Lib.hid (rr_bad (by omega) hlt Hx.out he.out (by omega))
            clear hpw
            go_wp2
            exact bodyPost_ret (v := .tuple #[.int .i64 0, .int .i64 0, .int .i64 3]) (by simp [results, Try.results57, go_sem]) rfl ⟨by rw [H.out]; rfl, rfl⟩
          · have hx0' : ((x : Int) == 0) = false := by simp; omega
            have Hr := Lib.hid (show readN l = .ok (unzig (U + x * 34359738368), 5 + 1) by have := rr_end (by omega) hlt Hx.out he.out (by omega) h128; rw [hpw] at this; exact this)
            by_cases hev : (U + x * 34359738368) % 2 = 0
            · have H := Lib.hid (show readN l = .ok ((((U + x * 34359738368) / 2 : Nat) : Int), 5 + 1) by rw [Hr.out, unzig_e _ hev])
              have ht : (((U : Int) + (x : Int) % 128 * 34359738368) % 2 == 1) = false := by simp; omega
              clear hpw
              go_wp2
              exact bodyPost_ret (v := .tuple #[.int .i64 (((U : Int) + (x : Int) % 128 * 34359738368) / 2), .int .i64 6, .int .i64 0]) (by simp [results, Try.results57, go_sem]) rfl ⟨ret_nv H.out (by omega) (by omega), rfl⟩
            · have H := Lib.hid (show readN l = .ok (-(((U + x * 34359738368) / 2 : Nat) : Int) - 1, 5 + 1) by rw [Hr.out, unzig_o _ (by omega)])
              have ht : (((U : Int) + (x : Int) % 128 * 34359738368) % 2 == 1) = true := by simp; omega
              clear hpw
              go_wp2
              exact bodyPost_ret (v := .tuple #[.int .i64 (-(((U : Int) + (x : Int) % 128 * 34359738368) / 2) - 1), .int .i64 6, .int .i64 0]) (by simp [results, Try.results57, go_sem]) rfl ⟨ret_nv H.out (by omega) (by omega), rfl⟩
        · have hpw2 : pw 6 = 4398046511104 := by decide
          have Hn := Lib.hid (show rd 10 0 0 l = rd (10 - (5 + 1)) (5 + 1) (U + x % 128 * 34359738368) (l.drop (5 + 1)) by have := rr_next (by omega) hlt Hx.out he.out (by omega) h128; rw [hpw] at this; exact this)
          have HN := Lib.hid (show U + x % 128 * 34359738368 < pw (5 + 1) by rw [hpw2]; omega)
          have HP := Lib.hid hpw2
          clear hpw hpw2
          go_wp2
          go_round
          case rel => exact ⟨5 + 1, U + x % 128 * 34359738368, by omega, by omega, HN.out, vint (by omega), vint (by rw [HP.out]; rfl), rfl, Hn.out⟩
          case measure => simp [intOf]
      · have hpw : pw 6 = 4398046511104 := by decide
        rw [hpw] at hU ⊢
        by_cases h128 : x < 128
        · by_cases hx0 : x = 0
          · subst hx0
            have H := Lib.hid (rr_bad (by omega) hlt Hx.out he.out (by omega))
            clear hpw
            go_wp2
            exact bodyPost_ret (v := .tuple #[.int .i64 0, .int .i64 0, .int .i64 3]) (by simp [results, Try.results57, go_sem]) rfl ⟨by rw [H.out]; rfl, rfl⟩
          · have hx0' : ((x : Int) == 0) = false := by simp; omega
            have Hr := Lib.hid (show readN l = .ok (unzig (U + x * 4398046511104), 6 + 1) by have := rr_end (by omega) hlt Hx.out he.out (by omega) h128; rw [hpw] at this; exact this)
            by_cases hev : (U + x * 4398046511104) % 2 = 0
            · have H := Lib.hid (show readN l = .ok ((((U + x * 4398046511104) / 2 : Nat) : Int), 6 + 1) by rw [Hr.out, unzig_e _ hev])
              have ht : (((U : Int) + (x : Int) % 128 * 4398046511104) % 2 == 1) = false := by simp; omega
              clear hpw
              go_wp2
              exact bodyPost_ret (v := .tuple #[.int .i64 (((U : Int) + (x : Int) % 128 * 4398046511104) / 2), .int .i64 7, .int .i64 0]) (by simp [results, Try.results57, go_sem]) rfl ⟨ret_nv H.out (by omega) (by omega), rfl⟩
            · have H := Lib.hid (show readN l = .ok (-(((U + x * 4398046511104) / 2 : Nat) : Int) - 1, 6 + 1) by rw [Hr.out, unzig_o _ (by omega)])
              have ht : (((U : Int) + (x : Int) % 128 * 4398046511104) % 2 == 1) = true := by simp; omega
              clear hpw
              go_wp2
              exact bodyPost_ret (v := .tuple #[.int .i64 (-(((U : Int) + (x : Int) % 128 * 4398046511104) / 2) - 1), .int .i64 7, .int .i64 0]) (by simp [results, Try.results57, go_sem]) rfl ⟨ret_nv H.out (by omega) (by omega), rfl⟩
        · have hpw2 : pw 7 = 562949953421312 := by decide
          have Hn := Lib.hid (show rd 10 0 0 l = rd (10 - (6 + 1)) (6 + 1) (U + x % 128 * 4398046511104) (l.drop (6 + 1)) by have := rr_next (by omega) hlt Hx.out he.out (by omega) h128; rw [hpw] at this; exact this)
          have HN := Lib.hid (show U + x % 128 * 4398046511104 < pw (6 + 1) by rw [hpw2]; omega)
          have HP := Lib.hid hpw2
          clear hpw hpw2
          go_wp2
          go_round
          case rel => exact ⟨6 + 1, U + x % 128 * 4398046511104, by omega, by omega, HN.out, vint (by omega), vint (by rw [HP.out]; rfl), rfl, Hn.out⟩
          case measure => simp [intOf]
      · have hpw : pw 7 = 562949953421312 := by decide
        rw [hpw] at hU ⊢
        by_cases h128 : x < 128
        · by_cases hx0 : x = 0
          · subst hx0
            have H := Lib.hid (rr_bad (by omega) hlt Hx.out he.out (by omega))
            clear hpw
            go_wp2
            exact bodyPost_ret (v := .tuple #[.int .i64 0, .int .i64 0, .int .i64 3]) (by simp [results, Try.results57, go_sem]) rfl ⟨by rw [H.out]; rfl, rfl⟩
          · have hx0' : ((x : Int) == 0) = false := by simp; omega
            have Hr := Lib.hid (show readN l = .ok (unzig (U + x * 562949953421312), 7 + 1) by have := rr_end (by omega) hlt Hx.out he.out (by omega) h128; rw [hpw] at this; exact this)
            by_cases hev : (U + x * 562949953421312) % 2 = 0
            · have H := Lib.hid (show readN l = .ok ((((U + x * 562949953421312) / 2 : Nat) : Int), 7 + 1) by rw [Hr.out, unzig_e _ hev])
              have ht : (((U : Int) + (x : Int) % 128 * 562949953421312) % 2 == 1) = false := by simp; omega
              clear hpw
              go_wp2
              exact bodyPost_ret (v := .tuple #[.int .i64 (((U : Int) + (x : Int) % 128 * 562949953421312) / 2), .int .i64 8, .int .i64 0]) (by simp [results, Try.results57, go_sem]) rfl ⟨ret_nv H.out (by omega) (by omega), rfl⟩
            · have H := Lib.hid (show readN l = .ok (-(((U + x * 562949953421312) / 2 : Nat) : Int) - 1, 7 + 1) by rw [Hr.out, unzig_o _ (by omega)])
              have ht : (((U : Int) + (x : Int) % 128 * 562949953421312) % 2 == 1) = true := by simp; omega
              clear hpw
              go_wp2
              exact bodyPost_ret (v := .tuple #[.int .i64 (-(((U : Int) + (x : Int) % 128 * 562949953421312) / 2) - 1), .int .i64 8, .int .i64 0]) (by simp [results, Try.results57, go_sem]) rfl ⟨ret_nv H.out (by omega) (by omega), rfl⟩
        · have hpw2 : pw 8 = 72057594037927936 := by decide
          have Hn := Lib.hid (show rd 10 0 0 l = rd (10 - (7 + 1)) (7 + 1) (U + x % 128 * 562949953421312) (l.drop (7 + 1)) by have := rr_next (by omega) hlt Hx.out he.out (by omega) h128; rw [hpw] at this; exact this)
          have HN := Lib.hid (show U + x % 128 * 562949953421312 < pw (7 + 1) by rw [hpw2]; omega)
          have HP := Lib.hid hpw2
          clear hpw hpw2
          go_wp2
          go_round
          case rel => exact ⟨7 + 1, U + x % 128 * 562949953421312, by omega, by omega, HN.out, vint (by omega), vint (by rw [HP.out]; rfl), rfl, Hn.out⟩
          case measure => simp [intOf]
      · have hpw : pw 8 = 72057594037927936 := by decide
        rw [hpw] at hU ⊢
        by_cases h128 : x < 128
        · by_cases hx0 : x = 0
          · subst hx0
            have H := Lib.hid (rr_bad (by omega) hlt Hx.out he.out (by omega))
            clear hpw
            go_wp2
            exact bodyPost_ret (v := .tuple #[.int .i64 0, .int .i64 0, .int .i64 3]) (by simp [results, Try.results57, go_sem]) rfl ⟨by rw [H.out]; rfl, rfl⟩
          · have hx0' : ((x : Int) == 0) = false := by simp; omega
            have Hr := Lib.hid (show readN l = .ok (unzig (U + x * 72057594037927936), 8 + 1) by have := rr_end (by omega) hlt Hx.out he.out (by omega) h128; rw [hpw] at this; exact this)
            by_cases hev : (U + x * 72057594037927936) % 2 = 0
            · have H := Lib.hid (show readN l = .ok ((((U + x * 72057594037927936) / 2 : Nat) : Int), 8 + 1) by rw [Hr.out, unzig_e _ hev])
              have ht : (((U : Int) + (x : Int) % 128 * 72057594037927936) % 2 == 1) = false := by simp; omega
              clear hpw
              go_wp2
              exact bodyPost_ret (v := .tuple #[.int .i64 (((U : Int) + (x : Int) % 128 * 72057594037927936) / 2), .int .i64 9, .int .i64 0]) (by simp [results, Try.results57, go_sem]) rfl ⟨ret_nv H.out (by omega) (by omega), rfl⟩
            · have H := Lib.hid (show readN l = .ok (-(((U + x * 72057594037927936) / 2 : Nat) : Int) - 1, 8 + 1) by rw [Hr.out, unzig_o _ (by omega)])
              have ht : (((U : Int) + (x : Int) % 128 * 72057594037927936) % 2 == 1) = true := by simp; omega
              clear hpw
              go_wp2
              exact bodyPost_ret (v := .tuple #[.int .i64 (-(((U : Int) + (x : Int) % 128 * 72057594037927936) / 2) - 1), .int .i64 9, .int .i64 0]) (by simp [results, Try.results57, go_sem]) rfl ⟨ret_nv H.out (by omega) (by omega), rfl⟩
        · have hpw2 : pw 9 = 9223372036854775808 := by decide
          have Hn := Lib.hid (show rd 10 0 0 l = rd (10 - (8 + 1)) (8 + 1) (U + x % 128 * 72057594037927936) (l.drop (8 + 1)) by have := rr_next (by omega) hlt Hx.out he.out (by omega) h128; rw [hpw] at this; exact this)
          have HN := Lib.hid (show U + x % 128 * 72057594037927936 < pw (8 + 1) by rw [hpw2]; omega)
          have HP := Lib.hid hpw2
          clear hpw hpw2
          go_wp2
          go_round
          case rel => exact ⟨8 + 1, U + x % 128 * 72057594037927936, by omega, by omega, HN.out, vint (by omega), vint (by rw [HP.out]; rfl), rfl, Hn.out⟩
          case measure => simp [intOf]
      · have hpw : pw 9 = 9223372036854775808 := by decide
        rw [hpw] at hU ⊢
        by_cases hx1 : x = 1
        · subst hx1
          have Hr := Lib.hid (show readN l = .ok (unzig (U + 1 * 9223372036854775808), 9 + 1) by have := rr_end (by omega) hlt Hx.out he.out (by omega) (by omega); rw [hpw] at this; exact this)
          by_cases hev : (U + 1 * 9223372036854775808) % 2 = 0
          · have H := Lib.hid (show readN l = .ok ((((U + 1 * 9223372036854775808) / 2 : Nat) : Int), 9 + 1) by rw [Hr.out, unzig_e _ hev])
            have ht : (((U : Int) + 9223372036854775808) % 2 == 1) = false := by simp; omega
            clear hpw
            go_wp2
            exact bodyPost_ret (v := .tuple #[.int .i64 (((U : Int) + 9223372036854775808) / 2), .int .i64 10, .int .i64 0]) (by simp [results, Try.results57, go_sem]) rfl ⟨ret_nv H.out (by omega) (by omega), rfl⟩
          · have H := Lib.hid (show readN l = .ok (-(((U + 1 * 9223372036854775808) / 2 : Nat) : Int) - 1, 9 + 1) by rw [Hr.out, unzig_o _ (by omega)])
            have ht : (((U : Int) + 9223372036854775808) % 2 == 1) = true := by simp; omega
            clear hpw
            go_wp2
            exact bodyPost_ret (v := .tuple #[.int .i64 (-(((U : Int) + 9223372036854775808) / 2) - 1), .int .i64 10, .int .i64 0]) (by simp [results, Try.results57, go_sem]) rfl ⟨ret_nv H.out (by omega) (by omega), rfl⟩
        · have H := Lib.hid (rr_bad (by omega) hlt Hx.out he.out (by omega))
          have hxb : ((x : Int) != 1) = true := by simp; omega
          clear hpw
          go_wp2
          exact bodyPost_ret (v := .tuple #[.int .i64 0, .int .i64 0, .int .i64 3]) (by simp [results, Try.results57, go_sem]) rfl ⟨by rw [H.out]; rfl, rfl⟩
end Go.Proofs.Ythpngcfggnhdjaa

/- Contracts of layer 3: known, Length, lead, second, Step. -/
import Derived.Test.YtbcbmmgfdobdiaaDoorP8
import Derived.Outline
namespace Go.Proofs.YtbcbmmgfdobdiaaDoor
open Go.RowKit

def known8 (p : Int) : Bool := decide (1 ≤ p ∧ p ≤ 4)
theorem known8_any (p : Int) (w : World) : Calls Tryd.prog 91 #[.int .i64 p] w fun e w' => e = .returned (.bool (known8 p)) ∧ w = w' := by
  by_cases h1 : 1 ≤ p
  · by_cases h2 : p ≤ 4
    · have H := Lib.hid (show known8 p = true by simp [known8]; omega)
      go_enter Tryd.func91, Tryd.ntmps91
      go_wp2
      go_ret
      exact ⟨ret_bool H.out.symm, rfl⟩
    · have H := Lib.hid (show known8 p = false by simp [known8]; omega)
      go_enter Tryd.func91, Tryd.ntmps91
      go_wp2
      go_ret
      exact ⟨ret_bool H.out.symm, rfl⟩
  · have H := Lib.hid (show known8 p = false by simp [known8]; omega)
    go_enter Tryd.func91, Tryd.ntmps91
    go_wp2
    go_ret
    exact ⟨ret_bool H.out.symm, rfl⟩
theorem length8_any (c : Int) (w : World) : Calls Tryd.prog 105 #[.int .i64 c] w fun e w' => e = .returned (.int .i64 (len8 c : Int)) ∧ w = w' := by
  cases hs : scalB c with
  | false =>
    have H := Lib.hid (show len8 c = 0 by simp [len8, hs])
    have Hs := Lib.hid hs
    clear hs
    go_enter Tryd.func105, Tryd.ntmps105
    go_wp2_with fail
    refine (scalar_any c _).mono ?_
    rintro e w1 ⟨rfl, rfl⟩
    rw [Hs.out]
    go_wp2
    go_ret
    exact ⟨by rw [H.out]; rfl, rfl⟩
  | true =>
    have Hs := Lib.hid hs
    by_cases h1 : c ≤ 127
    · have H := Lib.hid (show len8 c = 1 by rw [len8, if_pos hs, if_pos h1])
      clear hs
      go_enter Tryd.func105, Tryd.ntmps105
      go_wp2_with fail
      refine (scalar_any c _).mono ?_
      rintro e w1 ⟨rfl, rfl⟩
      rw [Hs.out]
      go_wp2
      go_ret
      exact ⟨by rw [H.out]; rfl, rfl⟩
    · by_cases h2 : c ≤ 2047
      · have H := Lib.hid (show len8 c = 2 by rw [len8, if_pos hs, if_neg h1, if_pos h2])
        clear hs
        go_enter Tryd.func105, Tryd.ntmps105
        go_wp2_with fail
        refine (scalar_any c _).mono ?_
        rintro e w1 ⟨rfl, rfl⟩
        rw [Hs.out]
        go_wp2
        go_ret
        exact ⟨by rw [H.out]; rfl, rfl⟩
      · by_cases h3 : c ≤ 65535
        · have H := Lib.hid (show len8 c = 3 by rw [len8, if_pos hs, if_neg h1, if_neg h2, if_pos h3])
          clear hs
          go_enter Tryd.func105, Tryd.ntmps105
          go_wp2_with fail
          refine (scalar_any c _).mono ?_
          rintro e w1 ⟨rfl, rfl⟩
          rw [Hs.out]
          go_wp2
          go_ret
          exact ⟨by rw [H.out]; rfl, rfl⟩
        · have H := Lib.hid (show len8 c = 4 by rw [len8, if_pos hs, if_neg h1, if_neg h2, if_neg h3])
          clear hs
          go_enter Tryd.func105, Tryd.ntmps105
          go_wp2_with fail
          refine (scalar_any c _).mono ?_
          rintro e w1 ⟨rfl, rfl⟩
          rw [Hs.out]
          go_wp2
          go_ret
          exact ⟨by rw [H.out]; rfl, rfl⟩
def lead8 (b : Nat) : Nat := if b < 128 then 1 else if more8 b = 0 then 0 else more8 b + 1
theorem lead8_cases (b : Nat) : (b < 128 ∧ lead8 b = 1) ∨ (128 ≤ b ∧ b < 194 ∧ lead8 b = 0) ∨ (194 ≤ b ∧ b ≤ 223 ∧ lead8 b = 2) ∨ (224 ≤ b ∧ b ≤ 239 ∧ lead8 b = 3) ∨ (240 ≤ b ∧ b ≤ 244 ∧ lead8 b = 4) ∨ (244 < b ∧ lead8 b = 0) := by
  unfold lead8 more8
  by_cases h1 : b < 128
  · left; rw [if_pos h1]; omega
  · rw [if_neg h1]
    by_cases h2 : 194 ≤ b ∧ b ≤ 223
    · rw [if_pos h2]; simp; omega
    · rw [if_neg h2]
      by_cases h3 : 224 ≤ b ∧ b ≤ 239
      · rw [if_pos h3]; simp; omega
      · rw [if_neg h3]
        by_cases h4 : 240 ≤ b ∧ b ≤ 244
        · rw [if_pos h4]; simp; omega
        · rw [if_neg h4]; simp; omega
set_option maxRecDepth 100000 in
theorem lead8_any (b : Nat) (w : World) (hb : b < 256) : Calls Tryd.prog 129 #[.int .u8 (b : Int)] w fun e w' => e = .returned (.int .i64 (lead8 b : Int)) ∧ w = w' := by
  rcases lead8_cases b with ⟨h1, h⟩ | ⟨h1, h2, h⟩ | ⟨h1, h2, h⟩ | ⟨h1, h2, h⟩ | ⟨h1, h2, h⟩ | ⟨h1, h⟩ <;> (
    have H := Lib.hid h
    clear h
    go_enter Tryd.func129, Tryd.ntmps129
    go_wp2
    go_ret
    exact ⟨by rw [H.out]; rfl, rfl⟩)
theorem second8_any (b : Nat) (w : World) (hb : b < 256) : Calls Tryd.prog 130 #[.int .u8 (b : Int)] w fun e w' => e = .returned (.tuple #[.int .u8 (lo8 b : Int), .int .u8 (hi8 b : Int)]) ∧ w = w' := by
  by_cases h1 : b = 224
  · subst h1
    go_enter Tryd.func130, Tryd.ntmps130
    go_wp2
    go_ret2
    exact ⟨rfl, rfl⟩
  · by_cases h2 : b = 237
    · subst h2
      go_enter Tryd.func130, Tryd.ntmps130
      go_wp2
      go_ret2
      exact ⟨rfl, rfl⟩
    · by_cases h3 : b = 240
      · subst h3
        go_enter Tryd.func130, Tryd.ntmps130
        go_wp2
        go_ret2
        exact ⟨rfl, rfl⟩
      · by_cases h4 : b = 244
        · subst h4
          go_enter Tryd.func130, Tryd.ntmps130
          go_wp2
          go_ret2
          exact ⟨rfl, rfl⟩
        · have H := Lib.hid (show lo8 b = 128 ∧ hi8 b = 191 by unfold lo8 hi8; rw [if_neg h1, if_neg h3, if_neg h2, if_neg h4]; exact ⟨rfl, rfl⟩)
          have e1 : ((b : Int) == 224) = false := by simp; omega
          have e2 : ((b : Int) == 237) = false := by simp; omega
          have e3 : ((b : Int) == 240) = false := by simp; omega
          have e4 : ((b : Int) == 244) = false := by simp; omega
          clear h1 h2 h3 h4
          go_enter Tryd.func130, Tryd.ntmps130
          go_wp2
          go_ret2
          exact ⟨by rw [H.out.1, H.out.2]; rfl, rfl⟩
end Go.Proofs.YtbcbmmgfdobdiaaDoor

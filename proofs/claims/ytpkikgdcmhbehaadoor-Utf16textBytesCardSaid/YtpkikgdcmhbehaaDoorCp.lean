/- Contracts of the functions of layer 1 (codepoint) and of its reference: Valid, Surrogate, Scalar. -/
import Derived.Test.YtpkikgdcmhbehaaDoorRows
import Derived.Test.YtpkikgdcmhbehaaDoorWords
import Derived.WalkKit
import Derived.WalkSpells
import Derived.WalkLawsBesides
import Derived.Deep.QuietTactic
import Derived.BigQuiet
import Derived.Lib.Hide
namespace Go.Proofs.YtpkikgdcmhbehaaDoor
open Go.RowKit

def validB (c : Int) : Bool := decide (0 ≤ c ∧ c ≤ 1114111)
def surrB (c : Int) : Bool := decide (55296 ≤ c ∧ c ≤ 57343)
def scalB (c : Int) : Bool := decide ((0 ≤ c ∧ c ≤ 1114111) ∧ ¬ (55296 ≤ c ∧ c ≤ 57343))
theorem ret_bool {a b : Bool} (h : a = b) : Ending.returned (.bool a) = .returned (.bool b) := by rw [h]

theorem valid_any (c : Int) (w : World) : Calls Tryd.prog 37 #[.int .i64 c] w fun e w' => e = .returned (.bool (validB c)) ∧ w = w' := by
  by_cases h1 : 0 ≤ c
  · by_cases h2 : c ≤ 1114111
    · have H := Lib.hid (show validB c = true by simp [validB]; omega)
      go_enter Tryd.func37, Tryd.ntmps37
      go_wp2
      go_ret
      exact ⟨ret_bool H.out.symm, rfl⟩
    · have H := Lib.hid (show validB c = false by simp [validB]; omega)
      go_enter Tryd.func37, Tryd.ntmps37
      go_wp2
      go_ret
      exact ⟨ret_bool H.out.symm, rfl⟩
  · have H := Lib.hid (show validB c = false by simp [validB]; omega)
    go_enter Tryd.func37, Tryd.ntmps37
    go_wp2
    go_ret
    exact ⟨ret_bool H.out.symm, rfl⟩
theorem surr_any (c : Int) (w : World) : Calls Tryd.prog 30 #[.int .i64 c] w fun e w' => e = .returned (.bool (surrB c)) ∧ w = w' := by
  by_cases h1 : 55296 ≤ c
  · by_cases h2 : c ≤ 57343
    · have H := Lib.hid (show surrB c = true by simp [surrB]; omega)
      go_enter Tryd.func30, Tryd.ntmps30
      go_wp2
      go_ret
      exact ⟨ret_bool H.out.symm, rfl⟩
    · have H := Lib.hid (show surrB c = false by simp [surrB]; omega)
      go_enter Tryd.func30, Tryd.ntmps30
      go_wp2
      go_ret
      exact ⟨ret_bool H.out.symm, rfl⟩
  · have H := Lib.hid (show surrB c = false by simp [surrB]; omega)
    go_enter Tryd.func30, Tryd.ntmps30
    go_wp2
    go_ret
    exact ⟨ret_bool H.out.symm, rfl⟩
theorem scalar_any (c : Int) (w : World) : Calls Tryd.prog 23 #[.int .i64 c] w fun e w' => e = .returned (.bool (scalB c)) ∧ w = w' := by
  cases hv : validB c with
  | true =>
    cases hs : surrB c with
    | true =>
      have H := Lib.hid (show scalB c = false by simp [validB, surrB, scalB] at *; omega)
      have Hv := Lib.hid hv
      have Hs := Lib.hid hs
      clear hv hs
      go_enter Tryd.func23, Tryd.ntmps23
      go_wp2_with fail
      refine (valid_any c _).mono ?_
      rintro e w1 ⟨rfl, rfl⟩
      rw [Hv.out]
      go_wp2_with fail
      refine (surr_any c _).mono ?_
      rintro e w1 ⟨rfl, rfl⟩
      rw [Hs.out]
      go_wp2
      go_ret
      exact ⟨ret_bool H.out.symm, rfl⟩
    | false =>
      have H := Lib.hid (show scalB c = true by simp [validB, surrB, scalB] at *; omega)
      have Hv := Lib.hid hv
      have Hs := Lib.hid hs
      clear hv hs
      go_enter Tryd.func23, Tryd.ntmps23
      go_wp2_with fail
      refine (valid_any c _).mono ?_
      rintro e w1 ⟨rfl, rfl⟩
      rw [Hv.out]
      go_wp2_with fail
      refine (surr_any c _).mono ?_
      rintro e w1 ⟨rfl, rfl⟩
      rw [Hs.out]
      go_wp2
      go_ret
      exact ⟨ret_bool H.out.symm, rfl⟩
  | false =>
    have H := Lib.hid (show scalB c = false by simp [validB, scalB] at *; omega)
    have Hv := Lib.hid hv
    clear hv
    go_enter Tryd.func23, Tryd.ntmps23
    go_wp2_with fail
    refine (valid_any c _).mono ?_
    rintro e w1 ⟨rfl, rfl⟩
    rw [Hv.out]
    go_wp2
    go_ret
    exact ⟨ret_bool H.out.symm, rfl⟩
theorem rvalid_any (c : Int) (w : World) : Calls Tryd.prog 39 #[.int .i64 c] w fun e w' => e = .returned (.bool (validB c)) ∧ w = w' := by
  by_cases h1 : 0 ≤ c
  · by_cases h2 : c ≤ 1114111
    · have H := Lib.hid (show validB c = true by simp [validB]; omega)
      go_enter Tryd.func39, Tryd.ntmps39
      go_wp2
      go_ret
      exact ⟨ret_bool H.out.symm, rfl⟩
    · have H := Lib.hid (show validB c = false by simp [validB]; omega)
      go_enter Tryd.func39, Tryd.ntmps39
      go_wp2
      go_ret
      exact ⟨ret_bool H.out.symm, rfl⟩
  · have H := Lib.hid (show validB c = false by simp [validB]; omega)
    go_enter Tryd.func39, Tryd.ntmps39
    go_wp2
    go_ret
    exact ⟨ret_bool H.out.symm, rfl⟩
theorem rsurr_any (c : Int) (w : World) : Calls Tryd.prog 40 #[.int .i64 c] w fun e w' => e = .returned (.bool (surrB c)) ∧ w = w' := by
  by_cases h1 : 55296 ≤ c
  · by_cases h2 : c ≤ 57343
    · have H := Lib.hid (show surrB c = true by simp [surrB]; omega)
      go_enter Tryd.func40, Tryd.ntmps40
      go_wp2
      go_ret
      exact ⟨ret_bool H.out.symm, rfl⟩
    · have H := Lib.hid (show surrB c = false by simp [surrB]; omega)
      go_enter Tryd.func40, Tryd.ntmps40
      go_wp2
      go_ret
      exact ⟨ret_bool H.out.symm, rfl⟩
  · have H := Lib.hid (show surrB c = false by simp [surrB]; omega)
    go_enter Tryd.func40, Tryd.ntmps40
    go_wp2
    go_ret
    exact ⟨ret_bool H.out.symm, rfl⟩
theorem rscalar_any (c : Int) (w : World) : Calls Tryd.prog 26 #[.int .i64 c] w fun e w' => e = .returned (.bool (scalB c)) ∧ w = w' := by
  cases hv : validB c with
  | true =>
    cases hs : surrB c with
    | true =>
      have H := Lib.hid (show scalB c = false by simp [validB, surrB, scalB] at *; omega)
      have Hv := Lib.hid hv
      have Hs := Lib.hid hs
      clear hv hs
      go_enter Tryd.func26, Tryd.ntmps26
      go_wp2_with fail
      refine (rvalid_any c _).mono ?_
      rintro e w1 ⟨rfl, rfl⟩
      rw [Hv.out]
      go_wp2_with fail
      refine (rsurr_any c _).mono ?_
      rintro e w1 ⟨rfl, rfl⟩
      rw [Hs.out]
      go_wp2
      go_ret
      exact ⟨ret_bool H.out.symm, rfl⟩
    | false =>
      have H := Lib.hid (show scalB c = true by simp [validB, surrB, scalB] at *; omega)
      have Hv := Lib.hid hv
      have Hs := Lib.hid hs
      clear hv hs
      go_enter Tryd.func26, Tryd.ntmps26
      go_wp2_with fail
      refine (rvalid_any c _).mono ?_
      rintro e w1 ⟨rfl, rfl⟩
      rw [Hv.out]
      go_wp2_with fail
      refine (rsurr_any c _).mono ?_
      rintro e w1 ⟨rfl, rfl⟩
      rw [Hs.out]
      go_wp2
      go_ret
      exact ⟨ret_bool H.out.symm, rfl⟩
  | false =>
    have H := Lib.hid (show scalB c = false by simp [validB, scalB] at *; omega)
    have Hv := Lib.hid hv
    clear hv
    go_enter Tryd.func26, Tryd.ntmps26
    go_wp2_with fail
    refine (rvalid_any c _).mono ?_
    rintro e w1 ⟨rfl, rfl⟩
    rw [Hv.out]
    go_wp2
    go_ret
    exact ⟨ret_bool H.out.symm, rfl⟩
end Go.Proofs.YtpkikgdcmhbehaaDoor

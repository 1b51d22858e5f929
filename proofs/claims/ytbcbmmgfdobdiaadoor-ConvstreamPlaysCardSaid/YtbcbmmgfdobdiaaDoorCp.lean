/- Contracts of the functions of layer 1 (codepoint) and of its reference: Valid, Surrogate, Scalar. -/
import Derived.Test.YtbcbmmgfdobdiaaDoorRows
import Derived.Test.YtbcbmmgfdobdiaaDoorWords
import Derived.WalkKit
import Derived.WalkSpells
import Derived.WalkLawsBesides
import Derived.Deep.QuietTactic
import Derived.BigQuiet
import Derived.Lib.Hide
namespace Go.Proofs.YtbcbmmgfdobdiaaDoor
open Go.RowKit

def validB (c : Int) : Bool := decide (0 ≤ c ∧ c ≤ 1114111)
def surrB (c : Int) : Bool := decide (55296 ≤ c ∧ c ≤ 57343)
def scalB (c : Int) : Bool := decide ((0 ≤ c ∧ c ≤ 1114111) ∧ ¬ (55296 ≤ c ∧ c ≤ 57343))
theorem ret_bool {a b : Bool} (h : a = b) : Ending.returned (.bool a) = .returned (.bool b) := by rw [h]

theorem valid_any (c : Int) (w : World) : Calls Tryd.prog 99 #[.int .i64 c] w fun e w' => e = .returned (.bool (validB c)) ∧ w = w' := by
  by_cases h1 : 0 ≤ c
  · by_cases h2 : c ≤ 1114111
    · have H := Lib.hid (show validB c = true by simp [validB]; omega)
      go_enter Tryd.func99, Tryd.ntmps99
      go_wp2
      go_ret
      exact ⟨ret_bool H.out.symm, rfl⟩
    · have H := Lib.hid (show validB c = false by simp [validB]; omega)
      go_enter Tryd.func99, Tryd.ntmps99
      go_wp2
      go_ret
      exact ⟨ret_bool H.out.symm, rfl⟩
  · have H := Lib.hid (show validB c = false by simp [validB]; omega)
    go_enter Tryd.func99, Tryd.ntmps99
    go_wp2
    go_ret
    exact ⟨ret_bool H.out.symm, rfl⟩
theorem surr_any (c : Int) (w : World) : Calls Tryd.prog 100 #[.int .i64 c] w fun e w' => e = .returned (.bool (surrB c)) ∧ w = w' := by
  by_cases h1 : 55296 ≤ c
  · by_cases h2 : c ≤ 57343
    · have H := Lib.hid (show surrB c = true by simp [surrB]; omega)
      go_enter Tryd.func100, Tryd.ntmps100
      go_wp2
      go_ret
      exact ⟨ret_bool H.out.symm, rfl⟩
    · have H := Lib.hid (show surrB c = false by simp [surrB]; omega)
      go_enter Tryd.func100, Tryd.ntmps100
      go_wp2
      go_ret
      exact ⟨ret_bool H.out.symm, rfl⟩
  · have H := Lib.hid (show surrB c = false by simp [surrB]; omega)
    go_enter Tryd.func100, Tryd.ntmps100
    go_wp2
    go_ret
    exact ⟨ret_bool H.out.symm, rfl⟩
theorem scalar_any (c : Int) (w : World) : Calls Tryd.prog 82 #[.int .i64 c] w fun e w' => e = .returned (.bool (scalB c)) ∧ w = w' := by
  cases hv : validB c with
  | true =>
    cases hs : surrB c with
    | true =>
      have H := Lib.hid (show scalB c = false by simp [validB, surrB, scalB] at *; omega)
      have Hv := Lib.hid hv
      have Hs := Lib.hid hs
      clear hv hs
      go_enter Tryd.func82, Tryd.ntmps82
      go_wp2_with fail
      refine (valid_any c _).mono ?_
      rintro e w1 ⟨rfl, rfl⟩
      rw [Hv.out]
      go_wp2_with fail
      refine (surr_any c _).mono ?_
      rintro e w1 ⟨rfl, rfl⟩
      rw [Hs.out]
      go_wp2
      go_ret
      exact ⟨ret_bool H.out.symm, rfl⟩
    | false =>
      have H := Lib.hid (show scalB c = true by simp [validB, surrB, scalB] at *; omega)
      have Hv := Lib.hid hv
      have Hs := Lib.hid hs
      clear hv hs
      go_enter Tryd.func82, Tryd.ntmps82
      go_wp2_with fail
      refine (valid_any c _).mono ?_
      rintro e w1 ⟨rfl, rfl⟩
      rw [Hv.out]
      go_wp2_with fail
      refine (surr_any c _).mono ?_
      rintro e w1 ⟨rfl, rfl⟩
      rw [Hs.out]
      go_wp2
      go_ret
      exact ⟨ret_bool H.out.symm, rfl⟩
  | false =>
    have H := Lib.hid (show scalB c = false by simp [validB, scalB] at *; omega)
    have Hv := Lib.hid hv
    clear hv
    go_enter Tryd.func82, Tryd.ntmps82
    go_wp2_with fail
    refine (valid_any c _).mono ?_
    rintro e w1 ⟨rfl, rfl⟩
    rw [Hv.out]
    go_wp2
    go_ret
    exact ⟨ret_bool H.out.symm, rfl⟩
theorem rvalid_any (c : Int) (w : World) : Calls Tryd.prog 75 #[.int .i64 c] w fun e w' => e = .returned (.bool (validB c)) ∧ w = w' := by
  by_cases h1 : 0 ≤ c
  · by_cases h2 : c ≤ 1114111
    · have H := Lib.hid (show validB c = true by simp [validB]; omega)
      go_enter Tryd.func75, Tryd.ntmps75
      go_wp2
      go_ret
      exact ⟨ret_bool H.out.symm, rfl⟩
    · have H := Lib.hid (show validB c = false by simp [validB]; omega)
      go_enter Tryd.func75, Tryd.ntmps75
      go_wp2
      go_ret
      exact ⟨ret_bool H.out.symm, rfl⟩
  · have H := Lib.hid (show validB c = false by simp [validB]; omega)
    go_enter Tryd.func75, Tryd.ntmps75
    go_wp2
    go_ret
    exact ⟨ret_bool H.out.symm, rfl⟩
theorem rsurr_any (c : Int) (w : World) : Calls Tryd.prog 76 #[.int .i64 c] w fun e w' => e = .returned (.bool (surrB c)) ∧ w = w' := by
  by_cases h1 : 55296 ≤ c
  · by_cases h2 : c ≤ 57343
    · have H := Lib.hid (show surrB c = true by simp [surrB]; omega)
      go_enter Tryd.func76, Tryd.ntmps76
      go_wp2
      go_ret
      exact ⟨ret_bool H.out.symm, rfl⟩
    · have H := Lib.hid (show surrB c = false by simp [surrB]; omega)
      go_enter Tryd.func76, Tryd.ntmps76
      go_wp2
      go_ret
      exact ⟨ret_bool H.out.symm, rfl⟩
  · have H := Lib.hid (show surrB c = false by simp [surrB]; omega)
    go_enter Tryd.func76, Tryd.ntmps76
    go_wp2
    go_ret
    exact ⟨ret_bool H.out.symm, rfl⟩
theorem rscalar_any (c : Int) (w : World) : Calls Tryd.prog 52 #[.int .i64 c] w fun e w' => e = .returned (.bool (scalB c)) ∧ w = w' := by
  cases hv : validB c with
  | true =>
    cases hs : surrB c with
    | true =>
      have H := Lib.hid (show scalB c = false by simp [validB, surrB, scalB] at *; omega)
      have Hv := Lib.hid hv
      have Hs := Lib.hid hs
      clear hv hs
      go_enter Tryd.func52, Tryd.ntmps52
      go_wp2_with fail
      refine (rvalid_any c _).mono ?_
      rintro e w1 ⟨rfl, rfl⟩
      rw [Hv.out]
      go_wp2_with fail
      refine (rsurr_any c _).mono ?_
      rintro e w1 ⟨rfl, rfl⟩
      rw [Hs.out]
      go_wp2
      go_ret
      exact ⟨ret_bool H.out.symm, rfl⟩
    | false =>
      have H := Lib.hid (show scalB c = true by simp [validB, surrB, scalB] at *; omega)
      have Hv := Lib.hid hv
      have Hs := Lib.hid hs
      clear hv hs
      go_enter Tryd.func52, Tryd.ntmps52
      go_wp2_with fail
      refine (rvalid_any c _).mono ?_
      rintro e w1 ⟨rfl, rfl⟩
      rw [Hv.out]
      go_wp2_with fail
      refine (rsurr_any c _).mono ?_
      rintro e w1 ⟨rfl, rfl⟩
      rw [Hs.out]
      go_wp2
      go_ret
      exact ⟨ret_bool H.out.symm, rfl⟩
  | false =>
    have H := Lib.hid (show scalB c = false by simp [validB, scalB] at *; omega)
    have Hv := Lib.hid hv
    clear hv
    go_enter Tryd.func52, Tryd.ntmps52
    go_wp2_with fail
    refine (rvalid_any c _).mono ?_
    rintro e w1 ⟨rfl, rfl⟩
    rw [Hv.out]
    go_wp2
    go_ret
    exact ⟨ret_bool H.out.symm, rfl⟩
end Go.Proofs.YtbcbmmgfdobdiaaDoor

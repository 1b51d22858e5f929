/- Contracts of the functions of layer 1 (codepoint) and of its reference: Valid, Surrogate, Scalar. -/
import Derived.Test.YthlhcengdgmgdaaDoorRows
import Derived.Test.YthlhcengdgmgdaaDoorWords
import Derived.WalkKit
import Derived.WalkSpells
import Derived.WalkLawsBesides
import Derived.Deep.QuietTactic
import Derived.BigQuiet
import Derived.Lib.Hide
namespace Go.Proofs.YthlhcengdgmgdaaDoor
open Go.RowKit

def validB (c : Int) : Bool := decide (0 ≤ c ∧ c ≤ 1114111)
def surrB (c : Int) : Bool := decide (55296 ≤ c ∧ c ≤ 57343)
def scalB (c : Int) : Bool := decide ((0 ≤ c ∧ c ≤ 1114111) ∧ ¬ (55296 ≤ c ∧ c ≤ 57343))
theorem ret_bool {a b : Bool} (h : a = b) : Ending.returned (.bool a) = .returned (.bool b) := by rw [h]

theorem valid_any (c : Int) (w : World) : Calls Tryd.prog 41 #[.int .i64 c] w fun e w' => e = .returned (.bool (validB c)) ∧ w = w' := by
  by_cases h1 : 0 ≤ c
  · by_cases h2 : c ≤ 1114111
    · have H := Lib.hid (show validB c = true by simp [validB]; omega)
      go_enter Tryd.func41, Tryd.ntmps41
      go_wp2
      go_ret
      exact ⟨ret_bool H.out.symm, rfl⟩
    · have H := Lib.hid (show validB c = false by simp [validB]; omega)
      go_enter Tryd.func41, Tryd.ntmps41
      go_wp2
      go_ret
      exact ⟨ret_bool H.out.symm, rfl⟩
  · have H := Lib.hid (show validB c = false by simp [validB]; omega)
    go_enter Tryd.func41, Tryd.ntmps41
    go_wp2
    go_ret
    exact ⟨ret_bool H.out.symm, rfl⟩
theorem surr_any (c : Int) (w : World) : Calls Tryd.prog 42 #[.int .i64 c] w fun e w' => e = .returned (.bool (surrB c)) ∧ w = w' := by
  by_cases h1 : 55296 ≤ c
  · by_cases h2 : c ≤ 57343
    · have H := Lib.hid (show surrB c = true by simp [surrB]; omega)
      go_enter Tryd.func42, Tryd.ntmps42
      go_wp2
      go_ret
      exact ⟨ret_bool H.out.symm, rfl⟩
    · have H := Lib.hid (show surrB c = false by simp [surrB]; omega)
      go_enter Tryd.func42, Tryd.ntmps42
      go_wp2
      go_ret
      exact ⟨ret_bool H.out.symm, rfl⟩
  · have H := Lib.hid (show surrB c = false by simp [surrB]; omega)
    go_enter Tryd.func42, Tryd.ntmps42
    go_wp2
    go_ret
    exact ⟨ret_bool H.out.symm, rfl⟩
theorem scalar_any (c : Int) (w : World) : Calls Tryd.prog 27 #[.int .i64 c] w fun e w' => e = .returned (.bool (scalB c)) ∧ w = w' := by
  cases hv : validB c with
  | true =>
    cases hs : surrB c with
    | true =>
      have H := Lib.hid (show scalB c = false by simp [validB, surrB, scalB] at *; omega)
      have Hv := Lib.hid hv
      have Hs := Lib.hid hs
      clear hv hs
      go_enter Tryd.func27, Tryd.ntmps27
      go_wp2_with fail
      refine (valid_any c _).mono ?_
      rintro e w1 ⟨rfl, rfl⟩
      rw [Hv.out]
      go_wp2_with fail
      refine (surr_any c _).mono ?_
      rintro e w1 ⟨rfl, rfl⟩
      rw [Hs.out]
      go_wp2
      go_ret
      exact ⟨ret_bool H.out.symm, rfl⟩
    | false =>
      have H := Lib.hid (show scalB c = true by simp [validB, surrB, scalB] at *; omega)
      have Hv := Lib.hid hv
      have Hs := Lib.hid hs
      clear hv hs
      go_enter Tryd.func27, Tryd.ntmps27
      go_wp2_with fail
      refine (valid_any c _).mono ?_
      rintro e w1 ⟨rfl, rfl⟩
      rw [Hv.out]
      go_wp2_with fail
      refine (surr_any c _).mono ?_
      rintro e w1 ⟨rfl, rfl⟩
      rw [Hs.out]
      go_wp2
      go_ret
      exact ⟨ret_bool H.out.symm, rfl⟩
  | false =>
    have H := Lib.hid (show scalB c = false by simp [validB, scalB] at *; omega)
    have Hv := Lib.hid hv
    clear hv
    go_enter Tryd.func27, Tryd.ntmps27
    go_wp2_with fail
    refine (valid_any c _).mono ?_
    rintro e w1 ⟨rfl, rfl⟩
    rw [Hv.out]
    go_wp2
    go_ret
    exact ⟨ret_bool H.out.symm, rfl⟩
theorem rvalid_any (c : Int) (w : World) : Calls Tryd.prog 32 #[.int .i64 c] w fun e w' => e = .returned (.bool (validB c)) ∧ w = w' := by
  by_cases h1 : 0 ≤ c
  · by_cases h2 : c ≤ 1114111
    · have H := Lib.hid (show validB c = true by simp [validB]; omega)
      go_enter Tryd.func32, Tryd.ntmps32
      go_wp2
      go_ret
      exact ⟨ret_bool H.out.symm, rfl⟩
    · have H := Lib.hid (show validB c = false by simp [validB]; omega)
      go_enter Tryd.func32, Tryd.ntmps32
      go_wp2
      go_ret
      exact ⟨ret_bool H.out.symm, rfl⟩
  · have H := Lib.hid (show validB c = false by simp [validB]; omega)
    go_enter Tryd.func32, Tryd.ntmps32
    go_wp2
    go_ret
    exact ⟨ret_bool H.out.symm, rfl⟩
theorem rsurr_any (c : Int) (w : World) : Calls Tryd.prog 33 #[.int .i64 c] w fun e w' => e = .returned (.bool (surrB c)) ∧ w = w' := by
  by_cases h1 : 55296 ≤ c
  · by_cases h2 : c ≤ 57343
    · have H := Lib.hid (show surrB c = true by simp [surrB]; omega)
      go_enter Tryd.func33, Tryd.ntmps33
      go_wp2
      go_ret
      exact ⟨ret_bool H.out.symm, rfl⟩
    · have H := Lib.hid (show surrB c = false by simp [surrB]; omega)
      go_enter Tryd.func33, Tryd.ntmps33
      go_wp2
      go_ret
      exact ⟨ret_bool H.out.symm, rfl⟩
  · have H := Lib.hid (show surrB c = false by simp [surrB]; omega)
    go_enter Tryd.func33, Tryd.ntmps33
    go_wp2
    go_ret
    exact ⟨ret_bool H.out.symm, rfl⟩
theorem rscalar_any (c : Int) (w : World) : Calls Tryd.prog 14 #[.int .i64 c] w fun e w' => e = .returned (.bool (scalB c)) ∧ w = w' := by
  cases hv : validB c with
  | true =>
    cases hs : surrB c with
    | true =>
      have H := Lib.hid (show scalB c = false by simp [validB, surrB, scalB] at *; omega)
      have Hv := Lib.hid hv
      have Hs := Lib.hid hs
      clear hv hs
      go_enter Tryd.func14, Tryd.ntmps14
      go_wp2_with fail
      refine (rvalid_any c _).mono ?_
      rintro e w1 ⟨rfl, rfl⟩
      rw [Hv.out]
      go_wp2_with fail
      refine (rsurr_any c _).mono ?_
      rintro e w1 ⟨rfl, rfl⟩
      rw [Hs.out]
      go_wp2
      go_ret
      exact ⟨ret_bool H.out.symm, rfl⟩
    | false =>
      have H := Lib.hid (show scalB c = true by simp [validB, surrB, scalB] at *; omega)
      have Hv := Lib.hid hv
      have Hs := Lib.hid hs
      clear hv hs
      go_enter Tryd.func14, Tryd.ntmps14
      go_wp2_with fail
      refine (rvalid_any c _).mono ?_
      rintro e w1 ⟨rfl, rfl⟩
      rw [Hv.out]
      go_wp2_with fail
      refine (rsurr_any c _).mono ?_
      rintro e w1 ⟨rfl, rfl⟩
      rw [Hs.out]
      go_wp2
      go_ret
      exact ⟨ret_bool H.out.symm, rfl⟩
  | false =>
    have H := Lib.hid (show scalB c = false by simp [validB, scalB] at *; omega)
    have Hv := Lib.hid hv
    clear hv
    go_enter Tryd.func14, Tryd.ntmps14
    go_wp2_with fail
    refine (rvalid_any c _).mono ?_
    rintro e w1 ⟨rfl, rfl⟩
    rw [Hv.out]
    go_wp2
    go_ret
    exact ⟨ret_bool H.out.symm, rfl⟩
end Go.Proofs.YthlhcengdgmgdaaDoor

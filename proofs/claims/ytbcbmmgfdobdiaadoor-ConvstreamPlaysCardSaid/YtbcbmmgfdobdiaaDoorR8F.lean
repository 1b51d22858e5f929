/- The reference's Length, Form, Policy, Written of layer 3. -/
import Derived.Test.YtbcbmmgfdobdiaaDoorU8F
namespace Go.Proofs.YtbcbmmgfdobdiaaDoor
open Go.RowKit

theorem rlength8_any (c : Int) (w : World) : Calls Tryd.prog 97 #[.int .i64 c] w fun e w' => e = .returned (.int .i64 (len8 c : Int)) ∧ w = w' := by
  cases hs : scalB c with
  | false =>
    have H := Lib.hid (show len8 c = 0 by simp [len8, hs])
    have Hs := Lib.hid hs
    clear hs
    go_enter Tryd.func97, Tryd.ntmps97
    go_wp2_with fail
    refine (rscalar_any c _).mono ?_
    rintro e w1 ⟨rfl, rfl⟩
    rw [Hs.out]
    go_wp2
    go_ret
    exact ⟨by rw [H.out]; rfl, rfl⟩
  | true =>
    have Hs := Lib.hid hs
    have hcase : (c ≤ 127 ∧ len8 c = 1) ∨ (128 ≤ c ∧ c ≤ 2047 ∧ len8 c = 2) ∨ (2048 ≤ c ∧ c ≤ 65535 ∧ len8 c = 3) ∨ (65536 ≤ c ∧ len8 c = 4) := by
      rw [len8, if_pos hs]
      by_cases h1 : c ≤ 127
      · rw [if_pos h1]; omega
      · rw [if_neg h1]
        by_cases h2 : c ≤ 2047
        · rw [if_pos h2]; omega
        · rw [if_neg h2]
          by_cases h3 : c ≤ 65535
          · rw [if_pos h3]; omega
          · rw [if_neg h3]; omega
    clear hs
    rcases hcase with ⟨h1, h⟩ | ⟨h1, h2, h⟩ | ⟨h1, h2, h⟩ | ⟨h1, h⟩
    all_goals
      have H := Lib.hid h
      clear h
      go_enter Tryd.func97, Tryd.ntmps97
      go_wp2_with fail
      refine (rscalar_any c _).mono ?_
      rintro e w1 ⟨rfl, rfl⟩
      rw [Hs.out]
      go_wp2
      go_ret
      exact ⟨by rw [H.out]; rfl, rfl⟩
set_option maxRecDepth 100000 in
set_option maxHeartbeats 2000000 in
theorem rform8_1 (c : Nat) (w : World) (hs : scalB (c : Int) = true) (h1 : c < 128) :
    Calls Tryd.prog 78 #[.int .i64 (c : Int)] w fun e w' => e = .returned (.string ⟨(form8 c).toArray⟩) ∧ Below w.heap.size w w' := by
  have Hl := Lib.hid (show len8 (c : Int) = 1 by rw [← form8_len c hs, form8, if_pos h1]; rfl)
  have hcv := conv_new (P := Tryd.prog) w Tryd.underlying92 Tryd.underlying5 Tryd.underlying9 #[.int .u8 (c : Int)] (form8 c) (by
    rw [form8, if_pos h1]; simp only [List.map_cons, List.map_nil]; rw [bv_ofNat _ (by omega)]) 1 (by rw [form8, if_pos h1]; rfl)
  generalize form8 c = S at hcv ⊢
  clear hs
  go_enter Tryd.func78, Tryd.ntmps78
  go_wp2_with fail
  refine (rlength8_any (c : Int) _).mono ?_
  rintro e w1 ⟨rfl, rfl⟩
  rw [Hl.out]
  go_wp2
  go_ret
  exact ⟨rfl, (Below.refl _ _).alloc (Nat.le_refl _) _⟩
set_option maxRecDepth 100000 in
set_option maxHeartbeats 2000000 in
theorem rform8_2 (c : Nat) (w : World) (hs : scalB (c : Int) = true) (h1 : ¬ c < 128) (h2 : c < 2048) :
    Calls Tryd.prog 78 #[.int .i64 (c : Int)] w fun e w' => e = .returned (.string ⟨(form8 c).toArray⟩) ∧ Below w.heap.size w w' := by
  have Hl := Lib.hid (show len8 (c : Int) = 2 by rw [← form8_len c hs, form8, if_neg h1, if_pos h2]; rfl)
  have hcv := conv_new (P := Tryd.prog) w Tryd.underlying92 Tryd.underlying5 Tryd.underlying9 #[.int .u8 (192 + (c : Int) / 64), .int .u8 (128 + (c : Int) % 64)] (form8 c) (by
    rw [form8, if_neg h1, if_pos h2]; simp only [List.map_cons, List.map_nil]; rw [bv_ofNat _ (by omega), bv_ofNat _ (by omega)]; simp) 2 (by rw [form8, if_neg h1, if_pos h2]; rfl)
  generalize form8 c = S at hcv ⊢
  clear hs
  go_enter Tryd.func78, Tryd.ntmps78
  go_wp2_with fail
  refine (rlength8_any (c : Int) _).mono ?_
  rintro e w1 ⟨rfl, rfl⟩
  rw [Hl.out]
  go_wp2
  go_ret
  exact ⟨rfl, (Below.refl _ _).alloc (Nat.le_refl _) _⟩
set_option maxRecDepth 100000 in
set_option maxHeartbeats 2000000 in
theorem rform8_3 (c : Nat) (w : World) (hs : scalB (c : Int) = true) (h1 : ¬ c < 128) (h2 : ¬ c < 2048) (h3 : c < 65536) :
    Calls Tryd.prog 78 #[.int .i64 (c : Int)] w fun e w' => e = .returned (.string ⟨(form8 c).toArray⟩) ∧ Below w.heap.size w w' := by
  have Hl := Lib.hid (show len8 (c : Int) = 3 by rw [← form8_len c hs, form8, if_neg h1, if_neg h2, if_pos h3]; rfl)
  have hcv := conv_new (P := Tryd.prog) w Tryd.underlying92 Tryd.underlying5 Tryd.underlying9 #[.int .u8 (224 + (c : Int) / 4096), .int .u8 (128 + (c : Int) / 64 % 64), .int .u8 (128 + (c : Int) % 64)] (form8 c) (by
    rw [form8, if_neg h1, if_neg h2, if_pos h3]; simp only [List.map_cons, List.map_nil]; rw [bv_ofNat _ (by omega), bv_ofNat _ (by omega), bv_ofNat _ (by omega)]; simp) 3 (by rw [form8, if_neg h1, if_neg h2, if_pos h3]; rfl)
  generalize form8 c = S at hcv ⊢
  clear hs
  go_enter Tryd.func78, Tryd.ntmps78
  go_wp2_with fail
  refine (rlength8_any (c : Int) _).mono ?_
  rintro e w1 ⟨rfl, rfl⟩
  rw [Hl.out]
  go_wp2
  go_ret
  exact ⟨rfl, (Below.refl _ _).alloc (Nat.le_refl _) _⟩
set_option maxRecDepth 100000 in
set_option maxHeartbeats 2000000 in
theorem rform8_4 (c : Nat) (w : World) (hs : scalB (c : Int) = true) (h1 : ¬ c < 128) (h2 : ¬ c < 2048) (h3 : ¬ c < 65536) (h4 : c ≤ 1114111) :
    Calls Tryd.prog 78 #[.int .i64 (c : Int)] w fun e w' => e = .returned (.string ⟨(form8 c).toArray⟩) ∧ Below w.heap.size w w' := by
  have Hl := Lib.hid (show len8 (c : Int) = 4 by rw [← form8_len c hs, form8, if_neg h1, if_neg h2, if_neg h3]; rfl)
  have hcv := conv_new (P := Tryd.prog) w Tryd.underlying92 Tryd.underlying5 Tryd.underlying9 #[.int .u8 (240 + (c : Int) / 262144), .int .u8 (128 + (c : Int) / 4096 % 64), .int .u8 (128 + (c : Int) / 64 % 64), .int .u8 (128 + (c : Int) % 64)] (form8 c) (by
    rw [form8, if_neg h1, if_neg h2, if_neg h3]; simp only [List.map_cons, List.map_nil]; rw [bv_ofNat _ (by omega), bv_ofNat _ (by omega), bv_ofNat _ (by omega), bv_ofNat _ (by omega)]; simp) 4 (by rw [form8, if_neg h1, if_neg h2, if_neg h3]; rfl)
  generalize form8 c = S at hcv ⊢
  clear hs
  go_enter Tryd.func78, Tryd.ntmps78
  go_wp2_with fail
  refine (rlength8_any (c : Int) _).mono ?_
  rintro e w1 ⟨rfl, rfl⟩
  rw [Hl.out]
  go_wp2
  go_ret
  exact ⟨rfl, (Below.refl _ _).alloc (Nat.le_refl _) _⟩
theorem rform8_any (c : Nat) (w : World) (hs : scalB (c : Int) = true) :
    Calls Tryd.prog 78 #[.int .i64 (c : Int)] w fun e w' => e = .returned (.string ⟨(form8 c).toArray⟩) ∧ Below w.heap.size w w' := by
  have hc := scal_pos hs
  by_cases h1 : c < 128
  · exact rform8_1 c w hs h1
  · by_cases h2 : c < 2048
    · exact rform8_2 c w hs h1 h2
    · by_cases h3 : c < 65536
      · exact rform8_3 c w hs h1 h2 h3
      · exact rform8_4 c w hs h1 h2 h3 (by omega)
theorem rform8_none (c : Int) (w : World) (hs : scalB c = false) :
    Calls Tryd.prog 78 #[.int .i64 c] w fun e w' => e = .returned (.string ⟨#[]⟩) ∧ w = w' := by
  have Hl := Lib.hid (show len8 c = 0 by simp [len8, hs])
  clear hs
  go_enter Tryd.func78, Tryd.ntmps78
  go_wp2_with fail
  refine (rlength8_any c _).mono ?_
  rintro e w1 ⟨rfl, rfl⟩
  rw [Hl.out]
  go_wp2
  go_ret
  exact ⟨rfl, rfl⟩
theorem rpolicy_any (p : Int) (w : World) : Calls Tryd.prog 77 #[.int .i64 p] w fun e w' => e = .returned (.bool (known8 p)) ∧ w = w' := by
  have hcase : (1 ≤ p ∧ p ≤ 4 ∧ known8 p = true) ∨ (p < 1 ∧ known8 p = false) ∨ (1 ≤ p ∧ ¬ p ≤ 4 ∧ known8 p = false) := by
    simp only [known8, decide_eq_true_eq, decide_eq_false_iff_not]; omega
  rcases hcase with ⟨h1, h2, h⟩ | ⟨h1, h⟩ | ⟨h1, h2, h⟩
  all_goals
    have H := Lib.hid h
    clear h
    go_enter Tryd.func77, Tryd.ntmps77
    go_wp2
    go_ret
    exact ⟨ret_bool H.out.symm, rfl⟩
theorem rwritten_any (c : Int) (w : World) : Calls Tryd.prog 79 #[.int .i64 c] w fun e w' => e = .returned (.string ⟨([92, 117, 123] ++ hexB c ++ [125]).toArray⟩) ∧ w = w' := by
  have hhl := hexB_len c
  go_enter Tryd.func79, Tryd.ntmps79
  go_wp2_with fail
  refine (rhex_any c w).mono ?_
  rintro e w1 ⟨rfl, rfl⟩
  generalize hX : hexB c = X at hhl
  have HX := Lib.hid hX
  clear hX
  have e1 : (⟨#[92, 117, 123]⟩ : ByteArray) ++ ⟨X.toArray⟩ = ⟨([92, 117, 123] ++ X).toArray⟩ := ByteArray.mk_append_mk [92, 117, 123] X
  have e2 : (⟨([92, 117, 123] ++ X).toArray⟩ : ByteArray) ++ ⟨#[125]⟩ = ⟨([92, 117, 123] ++ X ++ [125]).toArray⟩ := ByteArray.mk_append_mk _ [125]
  obtain ⟨S, hS⟩ : ∃ S, S = [92, 117, 123] ++ X ++ [125] := ⟨_, rfl⟩
  obtain ⟨S1, hS1⟩ : ∃ S, S = [92, 117, 123] ++ X := ⟨_, rfl⟩
  rw [← hS1] at e1 hS
  rw [← hS1, ← hS] at e2
  have hSl : S.length ≤ 10 := by rw [hS, hS1]; simp; omega
  have hS1l : S1.length ≤ 9 := by rw [hS1]; simp; omega
  have HS := Lib.hid (hS.trans (by rw [hS1]))
  clear hS hS1
  go_wp2
  go_ret
  exact ⟨by rw [HX.out]; exact ret_str HS.out, rfl⟩
end Go.Proofs.YtbcbmmgfdobdiaaDoor

/- utf8text.form. -/
import Derived.Test.YtbcbmmgfdobdiaaDoorU8S
namespace Go.Proofs.YtbcbmmgfdobdiaaDoor
open Go.RowKit

theorem and63i (a : Nat) (ha : a < 1000000000) : bits .and .i64 (a : Int) 63 = ((a % 64 : Nat) : Int) := by
  show IntKind.i64.wrap ((BitVec.ofInt 64 (a : Int) &&& BitVec.ofInt 64 63).toNat : Int) = _
  rw [BitVec.toNat_and, ofInt64 _ (by omega), show (BitVec.ofInt 64 63).toNat = 2 ^ 6 - 1 from by decide, Nat.and_two_pow_sub_one_eq_mod, IntKind.wrap_i64]
  omega
theorem and63I (a : Int) (h0 : 0 ≤ a) (ha : a < 1000000000) : bits .and .i64 a 63 = a % 64 := by
  obtain ⟨n, rfl⟩ := Int.eq_ofNat_of_zero_le h0
  rw [and63i n (by omega)]; omega
theorem or128 : ∀ x : Fin 64, bits .or .i64 128 (x.val : Int) % 256 = ((128 + x.val : Nat) : Int) := by decide +kernel
theorem or192 : ∀ x : Fin 32, bits .or .i64 192 (x.val : Int) % 256 = ((192 + x.val : Nat) : Int) := by decide +kernel
theorem or224 : ∀ x : Fin 16, bits .or .i64 224 (x.val : Int) % 256 = ((224 + x.val : Nat) : Int) := by decide +kernel
theorem or240 : ∀ x : Fin 8, bits .or .i64 240 (x.val : Int) % 256 = ((240 + x.val : Nat) : Int) := by decide +kernel
theorem or128I (n : Nat) (x : Int) (h : x = (n : Int)) (hn : n < 64) : Value.int .u8 (bits .or .i64 128 x % 256) = bv (UInt8.ofNat (128 + n)) := by
  rw [bv_ofNat _ (by omega), h, or128 ⟨n, hn⟩]
theorem or192I (n : Nat) (x : Int) (h : x = (n : Int)) (hn : n < 32) : Value.int .u8 (bits .or .i64 192 x % 256) = bv (UInt8.ofNat (192 + n)) := by
  rw [bv_ofNat _ (by omega), h, or192 ⟨n, hn⟩]
theorem or224I (n : Nat) (x : Int) (h : x = (n : Int)) (hn : n < 16) : Value.int .u8 (bits .or .i64 224 x % 256) = bv (UInt8.ofNat (224 + n)) := by
  rw [bv_ofNat _ (by omega), h, or224 ⟨n, hn⟩]
theorem or240I (n : Nat) (x : Int) (h : x = (n : Int)) (hn : n < 8) : Value.int .u8 (bits .or .i64 240 x % 256) = bv (UInt8.ofNat (240 + n)) := by
  rw [bv_ofNat _ (by omega), h, or240 ⟨n, hn⟩]

set_option maxRecDepth 100000 in
set_option maxHeartbeats 2000000 in
theorem form8_1 (c : Nat) (w : World) (hs : scalB (c : Int) = true) (h1 : c < 128) :
    Calls Tryd.prog 92 #[.int .i64 (c : Int)] w fun e w' => e = .returned (.string ⟨(form8 c).toArray⟩) ∧ Below w.heap.size w w' := by
  have Hl := Lib.hid (show len8 (c : Int) = 1 by rw [← form8_len c hs, form8, if_pos h1]; rfl)
  have hcv := conv_new (P := Tryd.prog) w Tryd.underlying92 Tryd.underlying5 Tryd.underlying9 #[.int .u8 (c : Int)] (form8 c) (by
    rw [form8, if_pos h1]; simp only [List.map_cons, List.map_nil]; rw [bv_ofNat _ (by omega)]) 1 (by rw [form8, if_pos h1]; rfl)
  generalize form8 c = S at hcv ⊢
  clear hs
  go_enter Tryd.func92, Tryd.ntmps92
  go_wp2_with fail
  refine (length8_any (c : Int) _).mono ?_
  rintro e w1 ⟨rfl, rfl⟩
  rw [Hl.out]
  go_wp2
  go_ret
  exact ⟨rfl, (Below.refl _ _).alloc (Nat.le_refl _) _⟩
set_option maxRecDepth 100000 in
set_option maxHeartbeats 2000000 in
theorem form8_2 (c : Nat) (w : World) (hs : scalB (c : Int) = true) (h1 : ¬ c < 128) (h2 : c < 2048) :
    Calls Tryd.prog 92 #[.int .i64 (c : Int)] w fun e w' => e = .returned (.string ⟨(form8 c).toArray⟩) ∧ Below w.heap.size w w' := by
  have Hl := Lib.hid (show len8 (c : Int) = 2 by rw [← form8_len c hs, form8, if_neg h1, if_pos h2]; rfl)
  have hmk : ∀ w : World, (Instr.makeSlice 92 (.int .i64 2) (.int .i64 2)).run Tryd.prog w = .ok (.slice (some ⟨w.heap.size, 0, none⟩) 2 2) (w.alloc (.cells #[.int .u8 0, .int .u8 0] 5)) := fun _ => by kernel_rfl
  have hcv := conv_new (P := Tryd.prog) w Tryd.underlying92 Tryd.underlying5 Tryd.underlying9 #[.int .u8 (bits .or .i64 192 ((c : Int) / 64) % 256), .int .u8 (bits .or .i64 128 ((c : Int) % 64) % 256)] (form8 c) (by
    rw [form8, if_neg h1, if_pos h2]; simp only [List.map_cons, List.map_nil]; rw [or192I (c / 64) _ (by omega) (by omega), or128I (c % 64) _ (by omega) (by omega)]) 2 (by rw [form8, if_neg h1, if_pos h2]; rfl)
  have m0 := and63I ((c : Int)) (by omega) (by omega)
  have a1 : bits .and .i64 960 255 = 192 := by decide
  generalize form8 c = S at hcv ⊢
  clear hs
  go_enter Tryd.func92, Tryd.ntmps92
  go_wp2_with fail
  refine (length8_any (c : Int) _).mono ?_
  rintro e w1 ⟨rfl, rfl⟩
  rw [Hl.out]
  go_wp2
  refine wp_loop_rounds 2 ?_
  rw [rounds_succ]
  go_wp2
  rw [rounds_succ]
  go_wp2
  go_ret
  exact ⟨rfl, (Below.refl _ _).alloc (Nat.le_refl _) _⟩
set_option maxRecDepth 100000 in
set_option maxHeartbeats 2000000 in
theorem form8_3 (c : Nat) (w : World) (hs : scalB (c : Int) = true) (h1 : ¬ c < 128) (h2 : ¬ c < 2048) (h3 : c < 65536) :
    Calls Tryd.prog 92 #[.int .i64 (c : Int)] w fun e w' => e = .returned (.string ⟨(form8 c).toArray⟩) ∧ Below w.heap.size w w' := by
  have Hl := Lib.hid (show len8 (c : Int) = 3 by rw [← form8_len c hs, form8, if_neg h1, if_neg h2, if_pos h3]; rfl)
  have hmk : ∀ w : World, (Instr.makeSlice 92 (.int .i64 3) (.int .i64 3)).run Tryd.prog w = .ok (.slice (some ⟨w.heap.size, 0, none⟩) 3 3) (w.alloc (.cells #[.int .u8 0, .int .u8 0, .int .u8 0] 5)) := fun _ => by kernel_rfl
  have hcv := conv_new (P := Tryd.prog) w Tryd.underlying92 Tryd.underlying5 Tryd.underlying9 #[.int .u8 (bits .or .i64 224 ((c : Int) / 64 / 64) % 256), .int .u8 (bits .or .i64 128 ((c : Int) / 64 % 64) % 256), .int .u8 (bits .or .i64 128 ((c : Int) % 64) % 256)] (form8 c) (by
    rw [form8, if_neg h1, if_neg h2, if_pos h3]; simp only [List.map_cons, List.map_nil]; rw [or224I (c / 4096) _ (by omega) (by omega), or128I (c / 64 % 64) _ (by omega) (by omega), or128I (c % 64) _ (by omega) (by omega)]) 3 (by rw [form8, if_neg h1, if_neg h2, if_pos h3]; rfl)
  have m0 := and63I ((c : Int)) (by omega) (by omega)
  have m1 := and63I ((c : Int) / 64) (by omega) (by omega)
  have a1 : bits .and .i64 480 255 = 224 := by decide
  generalize form8 c = S at hcv ⊢
  clear hs
  go_enter Tryd.func92, Tryd.ntmps92
  go_wp2_with fail
  refine (length8_any (c : Int) _).mono ?_
  rintro e w1 ⟨rfl, rfl⟩
  rw [Hl.out]
  go_wp2
  refine wp_loop_rounds 3 ?_
  rw [rounds_succ]
  go_wp2
  rw [rounds_succ]
  go_wp2
  rw [rounds_succ]
  go_wp2
  go_ret
  exact ⟨rfl, (Below.refl _ _).alloc (Nat.le_refl _) _⟩
set_option maxRecDepth 100000 in
set_option maxHeartbeats 2000000 in
theorem form8_4 (c : Nat) (w : World) (hs : scalB (c : Int) = true) (h1 : ¬ c < 128) (h2 : ¬ c < 2048) (h3 : ¬ c < 65536) (h4 : c ≤ 1114111) :
    Calls Tryd.prog 92 #[.int .i64 (c : Int)] w fun e w' => e = .returned (.string ⟨(form8 c).toArray⟩) ∧ Below w.heap.size w w' := by
  have Hl := Lib.hid (show len8 (c : Int) = 4 by rw [← form8_len c hs, form8, if_neg h1, if_neg h2, if_neg h3]; rfl)
  have hmk : ∀ w : World, (Instr.makeSlice 92 (.int .i64 4) (.int .i64 4)).run Tryd.prog w = .ok (.slice (some ⟨w.heap.size, 0, none⟩) 4 4) (w.alloc (.cells #[.int .u8 0, .int .u8 0, .int .u8 0, .int .u8 0] 5)) := fun _ => by kernel_rfl
  have hcv := conv_new (P := Tryd.prog) w Tryd.underlying92 Tryd.underlying5 Tryd.underlying9 #[.int .u8 (bits .or .i64 240 ((c : Int) / 64 / 64 / 64) % 256), .int .u8 (bits .or .i64 128 ((c : Int) / 64 / 64 % 64) % 256), .int .u8 (bits .or .i64 128 ((c : Int) / 64 % 64) % 256), .int .u8 (bits .or .i64 128 ((c : Int) % 64) % 256)] (form8 c) (by
    rw [form8, if_neg h1, if_neg h2, if_neg h3]; simp only [List.map_cons, List.map_nil]; rw [or240I (c / 262144) _ (by omega) (by omega), or128I (c / 4096 % 64) _ (by omega) (by omega), or128I (c / 64 % 64) _ (by omega) (by omega), or128I (c % 64) _ (by omega) (by omega)]) 4 (by rw [form8, if_neg h1, if_neg h2, if_neg h3]; rfl)
  have m0 := and63I ((c : Int)) (by omega) (by omega)
  have m1 := and63I ((c : Int) / 64) (by omega) (by omega)
  have m2 := and63I ((c : Int) / 64 / 64) (by omega) (by omega)
  have a1 : bits .and .i64 240 255 = 240 := by decide
  generalize form8 c = S at hcv ⊢
  clear hs
  go_enter Tryd.func92, Tryd.ntmps92
  go_wp2_with fail
  refine (length8_any (c : Int) _).mono ?_
  rintro e w1 ⟨rfl, rfl⟩
  rw [Hl.out]
  go_wp2
  refine wp_loop_rounds 4 ?_
  rw [rounds_succ]
  go_wp2
  rw [rounds_succ]
  go_wp2
  rw [rounds_succ]
  go_wp2
  rw [rounds_succ]
  go_wp2
  go_ret
  exact ⟨rfl, (Below.refl _ _).alloc (Nat.le_refl _) _⟩
theorem form8_any (c : Nat) (w : World) (hs : scalB (c : Int) = true) :
    Calls Tryd.prog 92 #[.int .i64 (c : Int)] w fun e w' => e = .returned (.string ⟨(form8 c).toArray⟩) ∧ Below w.heap.size w w' := by
  have hc := scal_pos hs
  by_cases h1 : c < 128
  · exact form8_1 c w hs h1
  · by_cases h2 : c < 2048
    · exact form8_2 c w hs h1 h2
    · by_cases h3 : c < 65536
      · exact form8_3 c w hs h1 h2 h3
      · exact form8_4 c w hs h1 h2 h3 (by omega)
end Go.Proofs.YtbcbmmgfdobdiaaDoor

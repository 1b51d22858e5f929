/- The reference of layer 4: Known, Form, Escaped, Encode. -/
import Derived.Test.YtbcbmmgfdobdiaaDoorU16E
namespace Go.Proofs.YtbcbmmgfdobdiaaDoor
open Go.RowKit

theorem rknown_any (p : Int) (w : World) : Calls Tryd.prog 106 #[.int .i64 p] w fun e w' => e = .returned (.bool (knownB p)) ∧ w = w' := by
  by_cases h1 : 1 ≤ p
  · by_cases h2 : p ≤ 4
    · have H := Lib.hid (show knownB p = true by simp [knownB]; omega)
      go_enter Tryd.func106, Tryd.ntmps106
      go_wp2
      go_ret
      exact ⟨ret_bool H.out.symm, rfl⟩
    · have H := Lib.hid (show knownB p = false by simp [knownB]; omega)
      go_enter Tryd.func106, Tryd.ntmps106
      go_wp2
      go_ret
      exact ⟨ret_bool H.out.symm, rfl⟩
  · have H := Lib.hid (show knownB p = false by simp [knownB]; omega)
    go_enter Tryd.func106, Tryd.ntmps106
    go_wp2
    go_ret
    exact ⟨ret_bool H.out.symm, rfl⟩


set_option maxRecDepth 100000 in
set_option maxHeartbeats 400000 in
theorem rform_any (c : Int) (w : World) (hs : scalB c = true) :
    Calls Tryd.prog 55 #[.int .i64 c] w fun e w' => ∃ v, e = .returned v ∧ w'.ownsRow w.heap.size 3 1 v (form16 c).length ((form16 c).map iv) ∧ Below w.heap.size w w' := by
  have hcb : 0 ≤ c ∧ c ≤ 1114111 := by simp [scalB] at hs; omega
  obtain ⟨hc0, hc1⟩ := hcb
  have Hs := Lib.hid hs
  clear hs
  by_cases hbig : 65535 < c
  · have Hf := Lib.hid (show form16 c = [55296 + (c - 65536) / 1024, 56320 + (c - 65536) % 1024] by rw [form16, if_pos hbig]; rfl)
    have hbig' : ¬ c < 65536 := by omega
    go_enter Tryd.func55, Tryd.ntmps55
    go_wp2_with fail
    refine (rscalar_any c _).mono ?_
    rintro e w1 ⟨rfl, rfl⟩
    rw [Hs.out]
    go_wp2
    go_ret
    exact ⟨_, rfl, by rw [Hf.out]; exact World.ownsRow_lit _ _ _ (Nat.le_refl _) (by unfold maxLen; omega) rfl, (Below.refl _ _).alloc (Nat.le_refl _) _⟩
  · have Hf := Lib.hid (show form16 c = [c] by rw [form16, if_neg hbig])
    have hbig' : c < 65536 := by omega
    clear hbig
    go_enter Tryd.func55, Tryd.ntmps55
    go_wp2_with fail
    refine (rscalar_any c _).mono ?_
    rintro e w1 ⟨rfl, rfl⟩
    rw [Hs.out]
    go_wp2
    go_ret
    exact ⟨_, rfl, by rw [Hf.out]; exact World.ownsRow_lit _ _ _ (Nat.le_refl _) (by unfold maxLen; omega) rfl, (Below.refl _ _).alloc (Nat.le_refl _) _⟩

set_option maxRecDepth 100000 in
set_option maxHeartbeats 400000 in
theorem resc_any (c : Int) (w : World) :
    Calls Tryd.prog 110 #[.int .i64 c] w fun e w' => ∃ v, e = .returned v ∧ w'.ownsRow w.heap.size 3 1 v (esc16 c).length ((esc16 c).map iv) ∧ Below w.heap.size w w' := by
  have hhl := hexB_len c
  go_enter Tryd.func110, Tryd.ntmps110
  go_wp2_with fail
  refine (rhex_any c w).mono ?_
  rintro e w1 ⟨rfl, rfl⟩
  generalize hX : hexB c = X at hhl
  have HX := Lib.hid hX
  clear hX
  have e1 : (⟨#[92, 117, 123]⟩ : ByteArray) ++ ⟨X.toArray⟩ = ⟨([92, 117, 123] ++ X).toArray⟩ := ByteArray.mk_append_mk [92, 117, 123] X
  have e2 : (⟨([92, 117, 123] ++ X).toArray⟩ : ByteArray) ++ ⟨#[125]⟩ = ⟨([92, 117, 123] ++ X ++ [125]).toArray⟩ := ByteArray.mk_append_mk _ [125]
  obtain ⟨S, hS⟩ : ∃ S, S = [92, 117, 123] ++ X ++ [125] := ⟨_, rfl⟩
  obtain ⟨S1, hS1⟩ : ∃ S, S = [92, 117, 123] ++ X := ⟨_, rfl⟩
  rw [← hS1] at e1 hS
  rw [← hS1, ← hS] at e2
  have hSl : S.length ≤ 10 := by rw [hS, hS1]; simp; omega
  have hS1l : S1.length ≤ 9 := by rw [hS1]; simp; omega
  have HS := Lib.hid (hS.trans (by rw [hS1]))
  clear hS hS1
  go_wp2_with fail
  refine (text_any S w (by omega)).mono ?_
  rintro e w1 ⟨v, rfl, ho, hb⟩
  go_wp2
  go_ret
  exact ⟨v, rfl, by rw [esc16, HX.out, ← HS.out, txt_len]; exact ho, hb⟩

end Go.Proofs.YtbcbmmgfdobdiaaDoor

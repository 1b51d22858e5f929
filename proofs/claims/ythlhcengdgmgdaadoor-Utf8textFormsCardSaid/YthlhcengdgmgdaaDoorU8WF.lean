/- The walk of Utf8textForms. -/
import Derived.Test.YthlhcengdgmgdaaDoorU8A
import Derived.Test.YthlhcengdgmgdaaDoorR8F
namespace Go.Proofs.YthlhcengdgmgdaaDoor
open Go.RowKit

theorem rlength8H (c : Int) (n : Nat) {w : World} (hR : len8 c = n) : Calls Tryd.prog 13 #[.int .i64 c] w fun x w' => x = .returned (.int .i64 (n : Int)) ∧ w' = w :=
  (rlength8_any c w).mono fun x w' ⟨h1, h2⟩ => ⟨by rw [h1, hR], h2.symm⟩
theorem rscalarH (c : Int) (b : Bool) {w : World} (hR : scalB c = b) : Calls Tryd.prog 14 #[.int .i64 c] w fun x w' => x = .returned (.bool b) ∧ w' = w :=
  (rscalar_any c w).mono fun x w' ⟨h1, h2⟩ => ⟨by rw [h1, hR], h2.symm⟩
theorem enc8_sing (c : Int) (h : scalB c = true) : enc8R [c] 1 = (form8 c.toNat, 0, 0) := by
  show outS (enc8 1 0 [c]) = _
  rw [enc8, if_pos h]; simp [enc8, pre8, outS]
theorem enc8_bad (c : Int) (h : scalB c = false) : enc8R [c] 1 = ([], 9, 0) := by
  show outS (enc8 1 0 [c]) = _
  rw [enc8, h]; rfl
set_option maxRecDepth 100000 in
set_option maxHeartbeats 4000000 in
theorem wk8_forms (c : Int) (w : World)  (hd : Dig w) :
    Calls Tryd.prog 3 #[.int .i64 c] w fun e w' => e = .returned (.bool true) ∧ Below w.heap.size w w' := by
  have Hd := Lib.hid hd
  clear hd
  have b0 := below_new w (.cells #[.int .i64 c] 3)
  have r0 := reads_newH w #[.int .i64 c] 3 ([c].map iv) _ rfl rfl
  cases hs : scalB c with
  | true =>
    obtain ⟨k, rfl⟩ := Int.eq_ofNat_of_zero_le (scal_pos hs).1
    have hE := enc8_sing _ hs
    have hfl := form8_len k hs
    rw [Int.toNat_natCast] at hE
    have HL := Lib.hid hfl.symm
    have HE := Lib.hid hE
    have Hs := Lib.hid hs
    have h4 := form8_le k
    have Hform := Lib.hid (fun (W : World) => rform8_any k W hs)
    clear hE hfl hs
    generalize form8 k = S at HL HE h4 Hform
    go_enter Tryd.func3, Tryd.ntmps3
    go_wp2_with fail
    refine (encode8H _ 1 1 [(k : Int)] S 1 0 0 _ r0 (by omega) (Hd.out.below b0) HE.out).mono ?_
    rintro x w1 ⟨rfl, hb1⟩
    have b1 := b0.trans (hb1.mono b0.size)
    clear b0
    have bn2 := below_new w1 (.cells #[.int .i64 0, .int .i64 0] 24)
    have f3 := Blk.new w1 24 #[.int .i64 0, .int .i64 0]
    have l6 := f3.cell 0
    have l7 := f3.cell 1
    go_wp2_with fail
    clear l6 l7
    obtain ⟨W4, hW5⟩ : ∃ W, W = w1.alloc (.cells #[.int .i64 0, .int .i64 0] 24) := ⟨_, rfl⟩
    rw [← hW5] at f3 bn2 ⊢
    clear hW5
    have b8 := b1.trans (bn2.mono b1.size)
    clear b1
    refine (length8H (k : Int) S.length _ HL.out).mono ?_
    rintro x w2 ⟨rfl, rfl⟩
    have d0 := f3.cell 0
    have d1 := f3.cell 1
    go_wp2_with fail
    go_quiet (first | (go_at_call 13; exact Calls.quiet_of_same (rlength8H _ _ HL.out)) | (go_at_call 14; exact Calls.quiet_of_same (rscalarH _ _ Hs.out)))
    have b9 := below_drewN b8 nq
    generalize W4.drewN nq = W9 at b9 ⊢
    go_wp2_with fail
    refine (Hform.out _).mono ?_
    rintro x w5 ⟨rfl, hb5⟩
    have b10 := b9.trans (hb5.mono b9.size)
    go_wp2_with fail
    refine (alive8_any _ (Hd.out.below b10)).mono ?_
    rintro x wz ⟨rfl, bz⟩
    go_wp2
    go_ret
    exact ⟨rfl, b10.trans (bz.mono b10.size)⟩
  | false =>
    have HE := Lib.hid (enc8_bad c hs)
    have HL := Lib.hid (show len8 c = 0 by simp [len8, hs])
    have Hs := Lib.hid hs
    have Hform := Lib.hid (fun (W : World) => rform8_none c W hs)
    clear hs
    go_enter Tryd.func3, Tryd.ntmps3
    go_wp2_with fail
    refine (encode8H _ 1 1 [c] [] 1 9 0 _ r0 (by omega) (Hd.out.below b0) HE.out).mono ?_
    rintro x w1 ⟨rfl, hb1⟩
    have b1 := b0.trans (hb1.mono b0.size)
    clear b0
    have bn2 := below_new w1 (.cells #[.int .i64 9, .int .i64 0] 24)
    have f3 := Blk.new w1 24 #[.int .i64 9, .int .i64 0]
    have l6 := f3.cell 0
    have l7 := f3.cell 1
    go_wp2_with fail
    clear l6 l7
    obtain ⟨W4, hW5⟩ : ∃ W, W = w1.alloc (.cells #[.int .i64 9, .int .i64 0] 24) := ⟨_, rfl⟩
    rw [← hW5] at f3 bn2 ⊢
    clear hW5
    have b8 := b1.trans (bn2.mono b1.size)
    clear b1
    refine (length8H c 0 _ HL.out).mono ?_
    rintro x w2 ⟨rfl, rfl⟩
    have d0 := f3.cell 0
    have d1 := f3.cell 1
    go_wp2_with fail
    go_quiet (first | (go_at_call 13; exact Calls.quiet_of_same (rlength8H _ _ HL.out)) | (go_at_call 14; exact Calls.quiet_of_same (rscalarH _ _ Hs.out)))
    have b9 := below_drewN b8 nq
    generalize W4.drewN nq = W9 at b9 ⊢
    go_wp2_with fail
    refine (Hform.out _).mono ?_
    rintro x w5 ⟨rfl, rfl⟩
    go_wp2_with fail
    refine (alive8_any _ (Hd.out.below b9)).mono ?_
    rintro x wz ⟨rfl, bz⟩
    go_wp2
    go_ret
    exact ⟨rfl, b9.trans (bz.mono b9.size)⟩
end Go.Proofs.YthlhcengdgmgdaaDoor

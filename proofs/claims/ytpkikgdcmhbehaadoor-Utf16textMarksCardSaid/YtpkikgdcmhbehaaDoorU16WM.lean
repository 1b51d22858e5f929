import Derived.Test.YtpkikgdcmhbehaaDoorU16W
namespace Go.Proofs.YtpkikgdcmhbehaaDoor
open Go.RowKit
set_option maxRecDepth 100000 in
set_option maxHeartbeats 4000000 in
theorem wk_marks (A : Option Addr) (n cap : Nat) (l : List Int) (big other : Bool) (w : World) (hr : Reads w w.heap.size 1 A n (l.map iv)) (hd : Dig w) :
    Calls Tryd.prog 7 #[.slice A n cap, .bool big, .bool other] w fun e w' => e = .returned (.bool true) ∧ Below w.heap.size w w' := by
  have Hd := Lib.hid hd
  clear hd
  by_cases hbig : 300 < n
  · have hbig' : (300 : Int) < (n : Int) := by omega
    go_enter Tryd.func7, Tryd.ntmps7
    go_wp2_with fail
    refine (awake_any _ (Hd.out)).mono ?_
    rintro e wz ⟨rfl, bz⟩
    go_wp2
    go_ret
    exact ⟨rfl, bz⟩
  have hbig' : ¬ (300 : Int) < (n : Int) := by omega
  have hln := len_of hr
  rcases marks l big other with ⟨k, hm⟩ | ⟨s, hm, hu, hs⟩
  · have HM := Lib.hid hm
    clear hm hln
    go_enter Tryd.func7, Tryd.ntmps7
    go_wp2_with fail
    refine (bytes_any w.heap.size n cap A l big true w hr (Nat.le_refl _) (by omega)).mono ?_
    rintro e w2 ⟨rfl, hb2⟩
    rw [HM.out]
    have f1 := hr.stay hb2
    have b2 := hb2
    clear hr
    go_wp2_with fail
    have f5 := Blk.new w2 26 #[.int .i64 1, .int .i64 k]
    have bx4 := below_new w2 (.cells #[.int .i64 1, .int .i64 k] 26)
    obtain ⟨W3, hW6⟩ : ∃ W, W = w2.alloc (.cells #[.int .i64 1, .int .i64 k] 26) := ⟨_, rfl⟩
    rw [← hW6] at f5 bx4 ⊢
    clear hW6
    have f8 := f1.stay bx4
    have b9 := b2.trans (bx4.mono b2.size)
    clear b2
    clear f1
    refine (awake_any _ (Hd.out.below b9)).mono ?_
    rintro e wz ⟨rfl, bz⟩
    go_wp2
    go_ret
    exact ⟨rfl, b9.trans (bz.mono b9.size)⟩
  · have HM := Lib.hid hm
    have HU := Lib.hid hu
    have hsl : s.length ≤ 700 := by omega
    have Hln := Lib.hid hln
    have hln2 : l.length ≤ 300 := by omega
    clear hm hu hs hln
    go_enter Tryd.func7, Tryd.ntmps7
    go_wp2_with fail
    refine (bytes_any w.heap.size n cap A l big true w hr (Nat.le_refl _) (by omega)).mono ?_
    rintro e w2 ⟨rfl, hb2⟩
    rw [HM.out]
    have f1 := hr.stay hb2
    have b2 := hb2
    clear hr
    go_wp2_with fail
    have f5 := Blk.new w2 26 #[.int .i64 0, .int .i64 0]
    have bx4 := below_new w2 (.cells #[.int .i64 0, .int .i64 0] 26)
    obtain ⟨W3, hW6⟩ : ∃ W, W = w2.alloc (.cells #[.int .i64 0, .int .i64 0] 26) := ⟨_, rfl⟩
    rw [← hW6] at f5 bx4 ⊢
    clear hW6
    have f8 := f1.stay bx4
    have b9 := b2.trans (bx4.mono b2.size)
    clear b2
    clear f1
    refine (unitsH s l other big 0 0 _ (by omega) HU.out).mono ?_
    rintro e w3 ⟨A3, c3, rfl, hr3, hb3⟩
    have f10 := f8.stay hb3
    have f11 := f5.stay hb3
    have b12 := b9.trans (hb3.mono b9.size)
    clear b9
    clear f8 f5
    go_wp2_with fail
    have f15 := Blk.new w3 26 #[.int .i64 0, .int .i64 0]
    have bx14 := below_new w3 (.cells #[.int .i64 0, .int .i64 0] 26)
    obtain ⟨W13, hW16⟩ : ∃ W, W = w3.alloc (.cells #[.int .i64 0, .int .i64 0] 26) := ⟨_, rfl⟩
    rw [← hW16] at f15 bx14 ⊢
    clear hW16
    have f18 := f10.stay bx14
    have f19 := f11.stay bx14
    have f20 := hr3.stay bx14
    have b21 := b12.trans (bx14.mono b12.size)
    clear b12
    clear f10 f11 hr3
    refine (equalH A3 A l.length c3 n cap l l _ f20 f18 (by omega)).mono ?_
    rintro e w4 ⟨rfl, hb4⟩
    rw [eqB_self]
    have f22 := f18.stay hb4
    have f23 := f19.stay hb4
    have f24 := f20.stay hb4
    have f25 := f15.stay hb4
    have b26 := b21.trans (hb4.mono b21.size)
    clear b21
    clear f18 f19 f20 f15
    have d0 := f25.cell 0
    go_wp2_with fail
    refine (awake_any _ (Hd.out.below b26)).mono ?_
    rintro e wz ⟨rfl, bz⟩
    go_wp2
    go_ret
    exact ⟨rfl, b26.trans (bz.mono b26.size)⟩
end Go.Proofs.YtpkikgdcmhbehaaDoor

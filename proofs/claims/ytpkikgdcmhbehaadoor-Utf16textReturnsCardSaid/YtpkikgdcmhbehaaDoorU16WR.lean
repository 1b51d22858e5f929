import Derived.Test.YtpkikgdcmhbehaaDoorU16W
namespace Go.Proofs.YtpkikgdcmhbehaaDoor
open Go.RowKit
set_option maxRecDepth 100000 in
set_option maxHeartbeats 4000000 in
theorem wk_returns (A : Option Addr) (n cap : Nat) (l : List Int) (p : Int) (w : World) (hr : Reads w w.heap.size 1 A n (l.map iv)) (hd : Dig w) :
    Calls Tryd.prog 6 #[.slice A n cap, .int .i64 p] w fun e w' => e = .returned (.bool true) ∧ Below w.heap.size w w' := by
  have Hd := Lib.hid hd
  clear hd
  by_cases hbig : 300 < n
  · have hbig' : (300 : Int) < (n : Int) := by omega
    go_enter Tryd.func6, Tryd.ntmps6
    go_wp2_with fail
    refine (awake_any _ (Hd.out)).mono ?_
    rintro e wz ⟨rfl, bz⟩
    go_wp2
    go_ret
    exact ⟨rfl, bz⟩
  have hbig' : ¬ (300 : Int) < (n : Int) := by omega
  have hln := len_of hr
  cases hk : knownB p with
  | false =>
    have Hk := Lib.hid hk
    clear hk hln
    go_enter Tryd.func6, Tryd.ntmps6
    go_wp2_with fail
    refine (rknown_any p _).mono ?_
    rintro e w1 ⟨rfl, rfl⟩
    rw [Hk.out]
    go_wp2_with fail
    refine (awake_any _ (Hd.out)).mono ?_
    rintro e wz ⟨rfl, bz⟩
    go_wp2
    go_ret
    exact ⟨rfl, bz⟩
  | true =>
    cases he : enc16 1 0 l with
    | error k =>
      have HR := Lib.hid (show encR l 1 = ([], 9, (k : Int)) by rw [encR_known l 1 rfl, he]; rfl)
      have Hk := Lib.hid hk
      clear hk he hln
      go_enter Tryd.func6, Tryd.ntmps6
      go_wp2_with fail
      refine (rknown_any p _).mono ?_
      rintro e w1 ⟨rfl, rfl⟩
      rw [Hk.out]
      go_wp2_with fail
      refine (encodeH A n cap l [] 1 9 (k : Int) w hr (by omega) Hd.out HR.out).mono ?_
      rintro e w2 ⟨A2, c2, rfl, hr2, hb2⟩
      have f1 := hr.stay hb2
      have b2 := hb2
      clear hr
      go_wp2_with fail
      have f5 := Blk.new w2 26 #[.int .i64 9, .int .i64 (k : Int)]
      have bx4 := below_new w2 (.cells #[.int .i64 9, .int .i64 (k : Int)] 26)
      obtain ⟨W3, hW6⟩ : ∃ W, W = w2.alloc (.cells #[.int .i64 9, .int .i64 (k : Int)] 26) := ⟨_, rfl⟩
      rw [← hW6] at f5 bx4 ⊢
      clear hW6
      have f8 := f1.stay bx4
      have f9 := hr2.stay bx4
      have b10 := b2.trans (bx4.mono b2.size)
      clear b2
      clear f1 hr2
      refine (awake_any _ (Hd.out.below b10)).mono ?_
      rintro e wz ⟨rfl, bz⟩
      go_wp2
      go_ret
      exact ⟨rfl, b10.trans (bz.mono b10.size)⟩
    | ok o =>
      have HR := Lib.hid (show encR l 1 = (o, 0, 0) by rw [encR_known l 1 rfl, he]; rfl)
      have HD := Lib.hid (show decR o p = (l, 0, 0) by rw [decR_known o p hk, dec_enc p l 0 0 o he]; rfl)
      have hol := enc16_len 1 l 0 o he
      have Hk := Lib.hid hk
      have Hln := Lib.hid hln
      have hln2 : l.length ≤ 300 := by omega
      clear hk he hln
      go_enter Tryd.func6, Tryd.ntmps6
      go_wp2_with fail
      refine (rknown_any p _).mono ?_
      rintro e w1 ⟨rfl, rfl⟩
      rw [Hk.out]
      go_wp2_with fail
      refine (encodeH A n cap l o 1 0 0 w hr (by omega) Hd.out HR.out).mono ?_
      rintro e w2 ⟨A2, c2, rfl, hr2, hb2⟩
      have f1 := hr.stay hb2
      have b2 := hb2
      clear hr
      go_wp2_with fail
      have f5 := Blk.new w2 26 #[.int .i64 0, .int .i64 0]
      have bx4 := below_new w2 (.cells #[.int .i64 0, .int .i64 0] 26)
      obtain ⟨W3, hW6⟩ : ∃ W, W = w2.alloc (.cells #[.int .i64 0, .int .i64 0] 26) := ⟨_, rfl⟩
      rw [← hW6] at f5 bx4 ⊢
      clear hW6
      have f8 := f1.stay bx4
      have f9 := hr2.stay bx4
      have b10 := b2.trans (bx4.mono b2.size)
      clear b2
      clear f1 hr2
      refine (decodeH A2 o.length c2 o l p 0 0 _ f9 (by omega) (Hd.out.below b10) HD.out).mono ?_
      rintro e w3 ⟨A3, c3, rfl, hr3, hb3⟩
      have f11 := f8.stay hb3
      have f12 := f9.stay hb3
      have f13 := f5.stay hb3
      have b14 := b10.trans (hb3.mono b10.size)
      clear b10
      clear f8 f9 f5
      go_wp2_with fail
      have f17 := Blk.new w3 26 #[.int .i64 0, .int .i64 0]
      have bx16 := below_new w3 (.cells #[.int .i64 0, .int .i64 0] 26)
      obtain ⟨W15, hW18⟩ : ∃ W, W = w3.alloc (.cells #[.int .i64 0, .int .i64 0] 26) := ⟨_, rfl⟩
      rw [← hW18] at f17 bx16 ⊢
      clear hW18
      have f20 := f11.stay bx16
      have f21 := f12.stay bx16
      have f22 := f13.stay bx16
      have f23 := hr3.stay bx16
      have b24 := b14.trans (bx16.mono b14.size)
      clear b14
      clear f11 f12 f13 hr3
      refine (equalH A3 A l.length c3 n cap l l _ f23 f20 (by omega)).mono ?_
      rintro e w4 ⟨rfl, hb4⟩
      rw [eqB_self]
      have f25 := f20.stay hb4
      have f26 := f21.stay hb4
      have f27 := f22.stay hb4
      have f28 := f23.stay hb4
      have f29 := f17.stay hb4
      have b30 := b24.trans (hb4.mono b24.size)
      clear b24
      clear f20 f21 f22 f23 f17
      have d0 := f29.cell 0
      go_wp2_with fail
      refine (awake_any _ (Hd.out.below b30)).mono ?_
      rintro e wz ⟨rfl, bz⟩
      go_wp2
      go_ret
      exact ⟨rfl, b30.trans (bz.mono b30.size)⟩
end Go.Proofs.YtpkikgdcmhbehaaDoor

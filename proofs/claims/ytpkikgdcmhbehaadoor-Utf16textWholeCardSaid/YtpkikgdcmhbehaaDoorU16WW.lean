import Derived.Test.YtpkikgdcmhbehaaDoorU16W
namespace Go.Proofs.YtpkikgdcmhbehaaDoor
open Go.RowKit
set_option maxRecDepth 100000 in
set_option maxHeartbeats 4000000 in
theorem wk_whole (A : Option Addr) (n cap : Nat) (l : List Int) (w : World) (hr : Reads w w.heap.size 1 A n (l.map iv)) (hd : Dig w) :
    Calls Tryd.prog 9 #[.slice A n cap] w fun e w' => e = .returned (.bool true) ∧ Below w.heap.size w w' := by
  have Hd := Lib.hid hd
  clear hd
  by_cases hbig : 300 < n
  · have hbig' : (300 : Int) < (n : Int) := by omega
    go_enter Tryd.func9, Tryd.ntmps9
    go_wp2_with fail
    refine (awake_any _ (Hd.out)).mono ?_
    rintro e wz ⟨rfl, bz⟩
    go_wp2
    go_ret
    exact ⟨rfl, bz⟩
  have hbig' : ¬ (300 : Int) < (n : Int) := by omega
  have hln := len_of hr
  obtain ⟨t, ht, hta⟩ := dec_other 2 (by omega) l.length l 0 (Nat.le_refl _)
  obtain ⟨q, hq⟩ := enc_all t 0 hta
  have htl := dec_len 2 l.length l 0 t (Nat.le_refl _) ht
  have HT := Lib.hid (show decR l 2 = (t, 0, 0) by rw [decR_known l 2 rfl, ht]; rfl)
  have HQ := Lib.hid (show encR t 1 = (q, 0, 0) by rw [encR_known t 1 rfl, hq]; rfl)
  rcases dec_fail l.length l 0 (Nat.le_refl _) with ⟨k, hk, _, hk2⟩ | ⟨s, hs1, hs2, hs3⟩
  · have HF := Lib.hid (show decR l 1 = ([], 9, (k : Int)) by rw [decR_known l 1 rfl, hk]; rfl)
    have hkn : (k : Int) < (n : Int) := by omega
    have hln2 : l.length ≤ 300 := by omega
    clear hk ht hq hln hta hk2
    go_enter Tryd.func9, Tryd.ntmps9
    go_wp2_with fail
    refine (decodeH A n cap l t 2 0 0 w hr (by omega) Hd.out HT.out).mono ?_
    rintro e w2 ⟨A2, c2, rfl, hr2, hb2⟩
    have f1 := hr.stay hb2
    have b2 := hb2
    clear hr
    go_wp2_with fail
    have f5 := Blk.new w2 26 #[.int .i64 0, .int .i64 0]
    have bx4 := below_new w2 (.cells #[.int .i64 0, .int .i64 0] 26)
    obtain ⟨W3, hW6⟩ : ∃ W, W = w2.alloc (.cells #[.int .i64 0, .int .i64 0] 26) := ⟨_, rfl⟩
    rw [← hW6] at f5 bx4 ⊢
    clear hW6
    have f8 := f1.stay bx4
    have f9 := hr2.stay bx4
    have b10 := b2.trans (bx4.mono b2.size)
    clear b2
    clear f1 hr2
    refine (encodeH A2 t.length c2 t q 1 0 0 _ f9 (by omega) (Hd.out.below b10) HQ.out).mono ?_
    rintro e w3 ⟨A3, c3, rfl, hr3, hb3⟩
    have f11 := f8.stay hb3
    have f12 := f9.stay hb3
    have f13 := f5.stay hb3
    have b14 := b10.trans (hb3.mono b10.size)
    clear b10
    clear f8 f9 f5
    clear hr3
    have look0 := (f13.stay (below_new w3 (.cells #[.int .i64 0, .int .i64 0] 26))).cell 0
    go_wp2_with fail
    clear look0
    have f17 := Blk.new w3 26 #[.int .i64 0, .int .i64 0]
    have bx16 := below_new w3 (.cells #[.int .i64 0, .int .i64 0] 26)
    obtain ⟨W15, hW18⟩ : ∃ W, W = w3.alloc (.cells #[.int .i64 0, .int .i64 0] 26) := ⟨_, rfl⟩
    rw [← hW18] at f17 bx16 ⊢
    clear hW18
    have f20 := f11.stay bx16
    have f21 := f12.stay bx16
    have f22 := f13.stay bx16
    have b23 := b14.trans (bx16.mono b14.size)
    clear b14
    clear f11 f12 f13
    refine (decodeH A n cap l [] 1 9 (k : Int) _ f20 (by omega) (Hd.out.below b23) HF.out).mono ?_
    rintro e w4 ⟨A4, c4, rfl, hr4, hb4⟩
    have f24 := f20.stay hb4
    have f25 := f21.stay hb4
    have f26 := f22.stay hb4
    have f27 := f17.stay hb4
    have b28 := b23.trans (hb4.mono b23.size)
    clear b23
    clear f20 f21 f22 f17
    go_wp2_with fail
    have f31 := Blk.new w4 26 #[.int .i64 9, .int .i64 (k : Int)]
    have bx30 := below_new w4 (.cells #[.int .i64 9, .int .i64 (k : Int)] 26)
    obtain ⟨W29, hW32⟩ : ∃ W, W = w4.alloc (.cells #[.int .i64 9, .int .i64 (k : Int)] 26) := ⟨_, rfl⟩
    rw [← hW32] at f31 bx30 ⊢
    clear hW32
    have f34 := f24.stay bx30
    have f35 := f25.stay bx30
    have f36 := f26.stay bx30
    have f37 := f27.stay bx30
    have b38 := b28.trans (bx30.mono b28.size)
    clear b28
    clear f24 f25 f26 f27
    refine (awake_any _ (Hd.out.below b38)).mono ?_
    rintro e wz ⟨rfl, bz⟩
    go_wp2
    go_ret
    exact ⟨rfl, b38.trans (bz.mono b38.size)⟩
  · obtain rfl : s = t := by have := hs3 2 0; rw [ht] at this; injection this with this; exact this.symm
    have HF := Lib.hid (show decR l 1 = (s, 0, 0) by rw [decR_known l 1 rfl, hs1]; rfl)
    have HE := Lib.hid (show encR s 1 = (l, 0, 0) by rw [encR_known s 1 rfl, hs2 0]; rfl)
    have Hln := Lib.hid hln
    have hln2 : l.length ≤ 300 := by omega
    clear hs1 hs2 hs3 ht hq hln hta
    go_enter Tryd.func9, Tryd.ntmps9
    go_wp2_with fail
    refine (decodeH A n cap l s 2 0 0 w hr (by omega) Hd.out HT.out).mono ?_
    rintro e w2 ⟨A2, c2, rfl, hr2, hb2⟩
    have f1 := hr.stay hb2
    have b2 := hb2
    clear hr
    go_wp2_with fail
    have f5 := Blk.new w2 26 #[.int .i64 0, .int .i64 0]
    have bx4 := below_new w2 (.cells #[.int .i64 0, .int .i64 0] 26)
    obtain ⟨W3, hW6⟩ : ∃ W, W = w2.alloc (.cells #[.int .i64 0, .int .i64 0] 26) := ⟨_, rfl⟩
    rw [← hW6] at f5 bx4 ⊢
    clear hW6
    have f8 := f1.stay bx4
    have f9 := hr2.stay bx4
    have b10 := b2.trans (bx4.mono b2.size)
    clear b2
    clear f1 hr2
    refine (encodeH A2 s.length c2 s q 1 0 0 _ f9 (by omega) (Hd.out.below b10) HQ.out).mono ?_
    rintro e w3 ⟨A3, c3, rfl, hr3, hb3⟩
    have f11 := f8.stay hb3
    have f12 := f9.stay hb3
    have f13 := f5.stay hb3
    have b14 := b10.trans (hb3.mono b10.size)
    clear b10
    clear f8 f9 f5
    clear hr3
    have look0 := (f13.stay (below_new w3 (.cells #[.int .i64 0, .int .i64 0] 26))).cell 0
    go_wp2_with fail
    clear look0
    have f17 := Blk.new w3 26 #[.int .i64 0, .int .i64 0]
    have bx16 := below_new w3 (.cells #[.int .i64 0, .int .i64 0] 26)
    obtain ⟨W15, hW18⟩ : ∃ W, W = w3.alloc (.cells #[.int .i64 0, .int .i64 0] 26) := ⟨_, rfl⟩
    rw [← hW18] at f17 bx16 ⊢
    clear hW18
    have f20 := f11.stay bx16
    have f21 := f12.stay bx16
    have f22 := f13.stay bx16
    have b23 := b14.trans (bx16.mono b14.size)
    clear b14
    clear f11 f12 f13
    refine (decodeH A n cap l s 1 0 0 _ f20 (by omega) (Hd.out.below b23) HF.out).mono ?_
    rintro e w4 ⟨A4, c4, rfl, hr4, hb4⟩
    have f24 := f20.stay hb4
    have f25 := f21.stay hb4
    have f26 := f22.stay hb4
    have f27 := f17.stay hb4
    have b28 := b23.trans (hb4.mono b23.size)
    clear b23
    clear f20 f21 f22 f17
    go_wp2_with fail
    have f31 := Blk.new w4 26 #[.int .i64 0, .int .i64 0]
    have bx30 := below_new w4 (.cells #[.int .i64 0, .int .i64 0] 26)
    obtain ⟨W29, hW32⟩ : ∃ W, W = w4.alloc (.cells #[.int .i64 0, .int .i64 0] 26) := ⟨_, rfl⟩
    rw [← hW32] at f31 bx30 ⊢
    clear hW32
    have f34 := f24.stay bx30
    have f35 := f25.stay bx30
    have f36 := f26.stay bx30
    have f37 := f27.stay bx30
    have f38 := hr4.stay bx30
    have b39 := b28.trans (bx30.mono b28.size)
    clear b28
    clear f24 f25 f26 f27 hr4
    refine (encodeH A4 s.length c4 s l 1 0 0 _ f38 (by omega) (Hd.out.below b39) HE.out).mono ?_
    rintro e w5 ⟨A5, c5, rfl, hr5, hb5⟩
    have f40 := f34.stay hb5
    have f41 := f35.stay hb5
    have f42 := f36.stay hb5
    have f43 := f37.stay hb5
    have f44 := f38.stay hb5
    have f45 := f31.stay hb5
    have b46 := b39.trans (hb5.mono b39.size)
    clear b39
    clear f34 f35 f36 f37 f38 f31
    go_wp2_with fail
    have f49 := Blk.new w5 26 #[.int .i64 0, .int .i64 0]
    have bx48 := below_new w5 (.cells #[.int .i64 0, .int .i64 0] 26)
    obtain ⟨W47, hW50⟩ : ∃ W, W = w5.alloc (.cells #[.int .i64 0, .int .i64 0] 26) := ⟨_, rfl⟩
    rw [← hW50] at f49 bx48 ⊢
    clear hW50
    have f52 := f40.stay bx48
    have f53 := f41.stay bx48
    have f54 := f42.stay bx48
    have f55 := f43.stay bx48
    have f56 := f44.stay bx48
    have f57 := f45.stay bx48
    have f58 := hr5.stay bx48
    have b59 := b46.trans (bx48.mono b46.size)
    clear b46
    clear f40 f41 f42 f43 f44 f45 hr5
    refine (equalH A5 A l.length c5 n cap l l _ f58 f52 (by omega)).mono ?_
    rintro e w6 ⟨rfl, hb6⟩
    rw [eqB_self]
    have f60 := f52.stay hb6
    have f61 := f53.stay hb6
    have f62 := f54.stay hb6
    have f63 := f55.stay hb6
    have f64 := f56.stay hb6
    have f65 := f57.stay hb6
    have f66 := f58.stay hb6
    have f67 := f49.stay hb6
    have b68 := b59.trans (hb6.mono b59.size)
    clear b59
    clear f52 f53 f54 f55 f56 f57 f58 f49
    go_wp2_with fail
    refine (equalH A4 A2 s.length c4 s.length c2 s s _ f64 f61 (by omega)).mono ?_
    rintro e w7 ⟨rfl, hb7⟩
    rw [eqB_self]
    have f69 := f60.stay hb7
    have f70 := f61.stay hb7
    have f71 := f62.stay hb7
    have f72 := f63.stay hb7
    have f73 := f64.stay hb7
    have f74 := f65.stay hb7
    have f75 := f66.stay hb7
    have f76 := f67.stay hb7
    have b77 := b68.trans (hb7.mono b68.size)
    clear b68
    clear f60 f61 f62 f63 f64 f65 f66 f67
    go_wp2_with fail
    refine (awake_any _ (Hd.out.below b77)).mono ?_
    rintro e wz ⟨rfl, bz⟩
    go_wp2
    go_ret
    exact ⟨rfl, b77.trans (bz.mono b77.size)⟩
end Go.Proofs.YtpkikgdcmhbehaaDoor

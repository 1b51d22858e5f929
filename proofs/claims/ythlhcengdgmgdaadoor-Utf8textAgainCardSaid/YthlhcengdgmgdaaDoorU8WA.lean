/- The walk of Utf8textAgain. -/
import Derived.Test.YthlhcengdgmgdaaDoorU8A
namespace Go.Proofs.YthlhcengdgmgdaaDoor
open Go.RowKit

theorem dec8R_known {s : List UInt8} {p : Int} (hp : 1 ≤ p ∧ p ≤ 4) : dec8R s p = outI (dec8 p s.length 0 s) := by
  rw [dec8R, if_pos (by simp [known8]; omega)]
theorem again8 (s : List UInt8) (p : Int) (hp : 1 ≤ p ∧ p ≤ 4) :
    (p = 1 ∧ val8 s = false ∧ ∃ k : Nat, k < s.length ∧ dec8R s 1 = ([], 9, (k : Int))) ∨
    (∃ l, dec8R s p = (l, 0, 0) ∧ l.length ≤ 5 * s.length ∧ ((enc8R l 1 = (s, 0, 0) ∧ val8 s = true) ∨ (p ≠ 1 ∧ val8 s = false ∧ ∃ t, enc8R l 1 = (t, 0, 0)))) := by
  have h1 : dec8R s 1 = outI (dec8 1 s.length 0 s) := dec8R_known (by omega)
  have hP : dec8R s p = outI (dec8 p s.length 0 s) := dec8R_known hp
  rcases dec8_strict s.length 0 s (Nat.le_refl _) with ⟨k, hk, _, hk3⟩ | ⟨l, hl, ha, hall⟩
  · have hv : val8 s = false := by rw [val8, h1, hk]; rfl
    by_cases hp1 : p = 1
    · exact .inl ⟨hp1, hv, k, by omega, by rw [h1, hk]; rfl⟩
    · obtain ⟨l, hl, ha⟩ := dec8_other p hp1 s.length 0 s (Nat.le_refl _)
      refine .inr ⟨l, by rw [hP, hl]; rfl, dec8_len p _ _ _ _ (Nat.le_refl _) hl, .inr ⟨hp1, hv, forms l, ?_⟩⟩
      show outS (enc8 1 0 l) = _
      rw [enc8_all 1 l 0 ha]; rfl
  · refine .inr ⟨l, by rw [hP, hall p]; rfl, dec8_len p _ _ _ _ (Nat.le_refl _) (hall p), .inl ⟨?_, by rw [val8, h1, hall 1]; rfl⟩⟩
    show outS (enc8 1 0 l) = _
    rw [enc8_all 1 l 0 ha, ← hl]; rfl
set_option maxRecDepth 100000 in
set_option maxHeartbeats 4000000 in
theorem wk8_again (s : List UInt8) (q : Nat) (w : World) (hq : q < 256) (hd : Dig w) :
    Calls Tryd.prog 8 #[.string ⟨s.toArray⟩, .int .u8 (q : Int)] w fun e w' => e = .returned (.bool true) ∧ Below w.heap.size w w' := by
  have Hd := Lib.hid hd
  clear hd
  by_cases hbig : 300 < s.length
  · have hbig' : (300 : Int) < (s.length : Int) := by omega
    go_enter Tryd.func8, Tryd.ntmps8
    go_wp2_with fail
    refine (alive8_any _ (Hd.out)).mono ?_
    rintro x wz ⟨rfl, bz⟩
    go_wp2
    go_ret
    exact ⟨rfl, bz⟩
  have hbig' : ¬ (300 : Int) < (s.length : Int) := by omega
  have hpp : 1 ≤ 1 + (q : Int) % 4 ∧ 1 + (q : Int) % 4 ≤ 4 := by omega
  rcases again8 s (1 + (q : Int) % 4) hpp with ⟨hp, hv, k, hk, hR⟩ | ⟨l, hR, hll, ⟨hE, hv⟩ | ⟨hp, hv, t, hE⟩⟩
  · have hq4 : (q : Int) % 4 = 0 := by omega
    have hkn : (k : Int) < (s.length : Int) := by omega
    have HR := Lib.hid hR
    have HV := Lib.hid hv
    clear hR hv hp hpp
    go_enter Tryd.func8, Tryd.ntmps8
    go_wp2_with fail
    refine (decode8H s [] 1 9 (k : Int) w (by omega) Hd.out HR.out).mono ?_
    rintro x w1 ⟨A1, c1, rfl, hr1, hb1⟩
    have b1 := hb1
    have bn2 := below_new w1 (.cells #[.int .i64 9, .int .i64 (k : Int)] 24)
    have f3 := Blk.new w1 24 #[.int .i64 9, .int .i64 (k : Int)]
    have l6 := f3.cell 0
    have l7 := f3.cell 1
    go_wp2_with fail
    clear l6 l7
    obtain ⟨W4, hW5⟩ : ∃ W, W = w1.alloc (.cells #[.int .i64 9, .int .i64 (k : Int)] 24) := ⟨_, rfl⟩
    rw [← hW5] at f3 bn2 ⊢
    clear hW5
    have f8 := hr1.stay bn2
    have b9 := b1.trans (bn2.mono b1.size)
    clear b1
    clear hr1
    refine (valid8H s false _ (by omega) (Hd.out.below b9) HV.out).mono ?_
    rintro x w2 ⟨rfl, hb2⟩
    have f10 := f8.stay hb2
    have f11 := f3.stay hb2
    have b12 := b9.trans (hb2.mono b9.size)
    clear b9
    clear f8 f3
    have l13 := f11.cell 0
    have l14 := f11.cell 1
    go_wp2_with fail
    refine (alive8_any _ (Hd.out.below b12)).mono ?_
    rintro x wz ⟨rfl, bz⟩
    go_wp2
    go_ret
    exact ⟨rfl, b12.trans (bz.mono b12.size)⟩
  · by_cases hp1 : 1 + (q : Int) % 4 = 1
    · have hq4 : (q : Int) % 4 = 0 := by omega
      have HR := Lib.hid hR
      have HV := Lib.hid hv
      have HE := Lib.hid hE
      have hl2 : l.length ≤ 1500 := by omega
      clear hR hv hE hpp hp1 hll
      rw [hq4] at HR
      go_enter Tryd.func8, Tryd.ntmps8
      go_wp2_with fail
      refine (decode8H s l (1 + 0) 0 0 w (by omega) Hd.out HR.out).mono ?_
      rintro x w1 ⟨A1, c1, rfl, hr1, hb1⟩
      have b1 := hb1
      have bn2 := below_new w1 (.cells #[.int .i64 0, .int .i64 0] 24)
      have f3 := Blk.new w1 24 #[.int .i64 0, .int .i64 0]
      have l6 := f3.cell 0
      have l7 := f3.cell 1
      go_wp2_with fail
      clear l6 l7
      obtain ⟨W4, hW5⟩ : ∃ W, W = w1.alloc (.cells #[.int .i64 0, .int .i64 0] 24) := ⟨_, rfl⟩
      rw [← hW5] at f3 bn2 ⊢
      clear hW5
      have f8 := hr1.stay bn2
      have b9 := b1.trans (bn2.mono b1.size)
      clear b1
      clear hr1
      refine (encode8H A1 l.length c1 l s 1 0 0 _ f8 (by omega) (Hd.out.below b9) HE.out).mono ?_
      rintro x w2 ⟨rfl, hb2⟩
      have f10 := f8.stay hb2
      have f11 := f3.stay hb2
      have b12 := b9.trans (hb2.mono b9.size)
      clear b9
      clear f8 f3
      have bn13 := below_new w2 (.cells #[.int .i64 0, .int .i64 0] 24)
      have f14 := Blk.new w2 24 #[.int .i64 0, .int .i64 0]
      have l17 := (f11.stay bn13).cell 0
      have l18 := (f11.stay bn13).cell 1
      have l19 := f14.cell 0
      have l20 := f14.cell 1
      go_wp2_with fail
      clear l17 l18 l19 l20
      obtain ⟨W15, hW16⟩ : ∃ W, W = w2.alloc (.cells #[.int .i64 0, .int .i64 0] 24) := ⟨_, rfl⟩
      rw [← hW16] at f14 bn13 ⊢
      clear hW16
      have f21 := f10.stay bn13
      have f22 := f11.stay bn13
      have b23 := b12.trans (bn13.mono b12.size)
      clear b12
      clear f10 f11
      refine (alive8_any _ (Hd.out.below b23)).mono ?_
      rintro x wz ⟨rfl, bz⟩
      go_wp2
      go_ret
      exact ⟨rfl, b23.trans (bz.mono b23.size)⟩
    · have hq4 : ((1 + (q : Int) % 4) == 1) = false := by simp; omega
      have hq5 : ((1 + (q : Int) % 4) != 1) = true := by simp; omega
      have HR := Lib.hid hR
      have HV := Lib.hid hv
      have HE := Lib.hid hE
      have hl2 : l.length ≤ 1500 := by omega
      clear hR hv hE hpp hp1 hll
      go_enter Tryd.func8, Tryd.ntmps8
      go_wp2_with fail
      refine (decode8H s l (1 + (q : Int) % 4) 0 0 w (by omega) Hd.out HR.out).mono ?_
      rintro x w1 ⟨A1, c1, rfl, hr1, hb1⟩
      have b1 := hb1
      have bn2 := below_new w1 (.cells #[.int .i64 0, .int .i64 0] 24)
      have f3 := Blk.new w1 24 #[.int .i64 0, .int .i64 0]
      have l6 := f3.cell 0
      have l7 := f3.cell 1
      go_wp2_with fail
      clear l6 l7
      obtain ⟨W4, hW5⟩ : ∃ W, W = w1.alloc (.cells #[.int .i64 0, .int .i64 0] 24) := ⟨_, rfl⟩
      rw [← hW5] at f3 bn2 ⊢
      clear hW5
      have f8 := hr1.stay bn2
      have b9 := b1.trans (bn2.mono b1.size)
      clear b1
      clear hr1
      refine (encode8H A1 l.length c1 l s 1 0 0 _ f8 (by omega) (Hd.out.below b9) HE.out).mono ?_
      rintro x w2 ⟨rfl, hb2⟩
      have f10 := f8.stay hb2
      have f11 := f3.stay hb2
      have b12 := b9.trans (hb2.mono b9.size)
      clear b9
      clear f8 f3
      have bn13 := below_new w2 (.cells #[.int .i64 0, .int .i64 0] 24)
      have f14 := Blk.new w2 24 #[.int .i64 0, .int .i64 0]
      have l17 := (f11.stay bn13).cell 0
      have l18 := (f11.stay bn13).cell 1
      have l19 := f14.cell 0
      have l20 := f14.cell 1
      go_wp2_with fail
      clear l17 l18 l19 l20
      obtain ⟨W15, hW16⟩ : ∃ W, W = w2.alloc (.cells #[.int .i64 0, .int .i64 0] 24) := ⟨_, rfl⟩
      rw [← hW16] at f14 bn13 ⊢
      clear hW16
      have f21 := f10.stay bn13
      have f22 := f11.stay bn13
      have b23 := b12.trans (bn13.mono b12.size)
      clear b12
      clear f10 f11
      refine (valid8H s true _ (by omega) (Hd.out.below b23) HV.out).mono ?_
      rintro x w3 ⟨rfl, hb3⟩
      have f24 := f21.stay hb3
      have f25 := f22.stay hb3
      have f26 := f14.stay hb3
      have b27 := b23.trans (hb3.mono b23.size)
      clear b23
      clear f21 f22 f14
      have l28 := f25.cell 0
      have l29 := f25.cell 1
      have l30 := f26.cell 0
      have l31 := f26.cell 1
      go_wp2_with fail
      refine (alive8_any _ (Hd.out.below b27)).mono ?_
      rintro x wz ⟨rfl, bz⟩
      go_wp2
      go_ret
      exact ⟨rfl, b27.trans (bz.mono b27.size)⟩
  · have hq4 : ((1 + (q : Int) % 4) == 1) = false := by simp; omega
    have hq5 : ((1 + (q : Int) % 4) != 1) = true := by simp; omega
    have HR := Lib.hid hR
    have HV := Lib.hid hv
    have HE := Lib.hid hE
    have hl2 : l.length ≤ 1500 := by omega
    clear hR hv hE hpp hp hll
    go_enter Tryd.func8, Tryd.ntmps8
    go_wp2_with fail
    refine (decode8H s l (1 + (q : Int) % 4) 0 0 w (by omega) Hd.out HR.out).mono ?_
    rintro x w1 ⟨A1, c1, rfl, hr1, hb1⟩
    have b1 := hb1
    have bn2 := below_new w1 (.cells #[.int .i64 0, .int .i64 0] 24)
    have f3 := Blk.new w1 24 #[.int .i64 0, .int .i64 0]
    have l6 := f3.cell 0
    have l7 := f3.cell 1
    go_wp2_with fail
    clear l6 l7
    obtain ⟨W4, hW5⟩ : ∃ W, W = w1.alloc (.cells #[.int .i64 0, .int .i64 0] 24) := ⟨_, rfl⟩
    rw [← hW5] at f3 bn2 ⊢
    clear hW5
    have f8 := hr1.stay bn2
    have b9 := b1.trans (bn2.mono b1.size)
    clear b1
    clear hr1
    refine (encode8H A1 l.length c1 l t 1 0 0 _ f8 (by omega) (Hd.out.below b9) HE.out).mono ?_
    rintro x w2 ⟨rfl, hb2⟩
    have f10 := f8.stay hb2
    have f11 := f3.stay hb2
    have b12 := b9.trans (hb2.mono b9.size)
    clear b9
    clear f8 f3
    have bn13 := below_new w2 (.cells #[.int .i64 0, .int .i64 0] 24)
    have f14 := Blk.new w2 24 #[.int .i64 0, .int .i64 0]
    have l17 := (f11.stay bn13).cell 0
    have l18 := (f11.stay bn13).cell 1
    have l19 := f14.cell 0
    have l20 := f14.cell 1
    go_wp2_with fail
    clear l17 l18 l19 l20
    obtain ⟨W15, hW16⟩ : ∃ W, W = w2.alloc (.cells #[.int .i64 0, .int .i64 0] 24) := ⟨_, rfl⟩
    rw [← hW16] at f14 bn13 ⊢
    clear hW16
    have f21 := f10.stay bn13
    have f22 := f11.stay bn13
    have b23 := b12.trans (bn13.mono b12.size)
    clear b12
    clear f10 f11
    refine (valid8H s false _ (by omega) (Hd.out.below b23) HV.out).mono ?_
    rintro x w3 ⟨rfl, hb3⟩
    have f24 := f21.stay hb3
    have f25 := f22.stay hb3
    have f26 := f14.stay hb3
    have b27 := b23.trans (hb3.mono b23.size)
    clear b23
    clear f21 f22 f14
    have l28 := f25.cell 0
    have l29 := f25.cell 1
    have l30 := f26.cell 0
    have l31 := f26.cell 1
    go_wp2_with fail
    refine (alive8_any _ (Hd.out.below b27)).mono ?_
    rintro x wz ⟨rfl, bz⟩
    go_wp2
    go_ret
    exact ⟨rfl, b27.trans (bz.mono b27.size)⟩
end Go.Proofs.YthlhcengdgmgdaaDoor

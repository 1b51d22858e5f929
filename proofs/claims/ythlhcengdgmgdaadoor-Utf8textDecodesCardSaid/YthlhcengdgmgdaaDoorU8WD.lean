/- The walk of Utf8textDecodes. -/
import Derived.Test.YthlhcengdgmgdaaDoorU8A
import Derived.Test.YthlhcengdgmgdaaDoorR8D
namespace Go.Proofs.YthlhcengdgmgdaaDoor
open Go.RowKit

theorem rvalid8H (s : List UInt8) (b : Bool) (w : World) (hs : s.length ≤ 100000) (hR : val8 s = b) :
    Calls Tryd.prog 24 #[.string ⟨s.toArray⟩] w fun x w' => x = .returned (.bool b) ∧ Below w.heap.size w w' :=
  (rvalid8_any s w hs).mono fun x w' ⟨h1, h2⟩ => ⟨by rw [h1, hR], h2⟩
theorem dec8R_len (s : List UInt8) (p : Int) : (dec8R s p).1.length ≤ 5 * s.length := by
  unfold dec8R
  split
  · cases h : dec8 p s.length 0 s with
    | error e => simp [outI]
    | ok o => exact dec8_len p _ _ _ _ (Nat.le_refl _) h
  · simp
set_option maxRecDepth 100000 in
set_option maxHeartbeats 4000000 in
theorem wk8_decodes (s : List UInt8) (p : Int) (w : World)  (hd : Dig w) :
    Calls Tryd.prog 6 #[.string ⟨s.toArray⟩, .int .i64 p] w fun e w' => e = .returned (.bool true) ∧ Below w.heap.size w w' := by
  have Hd := Lib.hid hd
  clear hd
  by_cases hbig : 200 < s.length
  · have hbig' : (200 : Int) < (s.length : Int) := by omega
    go_enter Tryd.func6, Tryd.ntmps6
    go_wp2_with fail
    refine (alive8_any _ (Hd.out)).mono ?_
    rintro x wz ⟨rfl, bz⟩
    go_wp2
    go_ret
    exact ⟨rfl, bz⟩
  have hbig' : ¬ (200 : Int) < (s.length : Int) := by omega
  have hol := dec8R_len s p
  obtain ⟨⟨o, e, a⟩, hR⟩ : ∃ x, dec8R s p = x := ⟨_, rfl⟩
  obtain ⟨vb, hV⟩ : ∃ x, val8 s = x := ⟨_, rfl⟩
  rw [hR] at hol
  simp only at hol
  have HR := Lib.hid hR
  have HV := Lib.hid hV
  clear hR hV
  go_enter Tryd.func6, Tryd.ntmps6
  go_wp2_with fail
  refine (decode8H s o p e a w (by omega) Hd.out HR.out).mono ?_
  rintro x w1 ⟨A1, c1, rfl, hr1, hb1⟩
  have b1 := hb1
  have bn2 := below_new w1 (.cells #[.int .i64 e, .int .i64 a] 24)
  have f3 := Blk.new w1 24 #[.int .i64 e, .int .i64 a]
  have l6 := f3.cell 0
  have l7 := f3.cell 1
  go_wp2_with fail
  clear l6 l7
  obtain ⟨W4, hW5⟩ : ∃ W, W = w1.alloc (.cells #[.int .i64 e, .int .i64 a] 24) := ⟨_, rfl⟩
  rw [← hW5] at f3 bn2 ⊢
  clear hW5
  have f8 := hr1.stay bn2
  have b9 := b1.trans (bn2.mono b1.size)
  clear b1
  clear hr1
  refine (rdecode8H s o p e a _ (by omega) HR.out).mono ?_
  rintro x w2 ⟨A2, c2, rfl, hr2, hb2⟩
  have f10 := f8.stay hb2
  have f11 := f3.stay hb2
  have b12 := b9.trans (hb2.mono b9.size)
  clear b9
  clear f8 f3
  have bn13 := below_new w2 (.cells #[.int .i64 e, .int .i64 a] 24)
  have f14 := Blk.new w2 24 #[.int .i64 e, .int .i64 a]
  have l17 := (f11.stay bn13).cell 0
  have l18 := (f11.stay bn13).cell 1
  have l19 := f14.cell 0
  have l20 := f14.cell 1
  go_wp2_with fail
  clear l17 l18 l19 l20
  obtain ⟨W15, hW16⟩ : ∃ W, W = w2.alloc (.cells #[.int .i64 e, .int .i64 a] 24) := ⟨_, rfl⟩
  rw [← hW16] at f14 bn13 ⊢
  clear hW16
  have f21 := f10.stay bn13
  have f22 := f11.stay bn13
  have f23 := hr2.stay bn13
  have b24 := b12.trans (bn13.mono b12.size)
  clear b12
  clear f10 f11 hr2
  refine (equalH A1 A2 o.length c1 o.length c2 o o _ f21 f23 (by omega)).mono ?_
  rintro x w3 ⟨rfl, hb3⟩
  rw [eqB_self]
  have f25 := f21.stay hb3
  have f26 := f22.stay hb3
  have f27 := f23.stay hb3
  have f28 := f14.stay hb3
  have b29 := b24.trans (hb3.mono b24.size)
  clear b24
  clear f21 f22 f23 f14
  have l30 := f26.cell 0
  have l31 := f26.cell 1
  have l32 := f28.cell 0
  have l33 := f28.cell 1
  go_wp2_with fail
  clear l30 l31 l32 l33
  refine (valid8H s vb _ (by omega) (Hd.out.below b29) HV.out).mono ?_
  rintro x w4 ⟨rfl, hb4⟩
  have f34 := f25.stay hb4
  have f35 := f26.stay hb4
  have f36 := f27.stay hb4
  have f37 := f28.stay hb4
  have b38 := b29.trans (hb4.mono b29.size)
  clear b29
  clear f25 f26 f27 f28
  have l39 := f35.cell 0
  have l40 := f35.cell 1
  have l41 := f37.cell 0
  have l42 := f37.cell 1
  go_wp2_with fail
  clear l39 l40 l41 l42
  refine (rvalid8H s vb _ (by omega) HV.out).mono ?_
  rintro x w5 ⟨rfl, hb5⟩
  have f43 := f34.stay hb5
  have f44 := f35.stay hb5
  have f45 := f36.stay hb5
  have f46 := f37.stay hb5
  have b47 := b38.trans (hb5.mono b38.size)
  clear b38
  clear f34 f35 f36 f37
  have l48 := f44.cell 0
  have l49 := f44.cell 1
  have l50 := f46.cell 0
  have l51 := f46.cell 1
  go_wp2_with fail
  refine (alive8_any _ (Hd.out.below b47)).mono ?_
  rintro x wz ⟨rfl, bz⟩
  go_wp2
  go_ret
  exact ⟨rfl, b47.trans (bz.mono b47.size)⟩
end Go.Proofs.YthlhcengdgmgdaaDoor

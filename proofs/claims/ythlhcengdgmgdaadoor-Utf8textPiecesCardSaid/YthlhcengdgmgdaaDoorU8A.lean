/- alive of the statements about layer 3. -/
import Derived.Test.YthlhcengdgmgdaaDoorU8D
import Derived.Test.YthlhcengdgmgdaaDoorStay
namespace Go.Proofs.YthlhcengdgmgdaaDoor
open Go.RowKit

theorem encode8H (A : Option Addr) (n cap : Nat) (l : List Int) (o : List UInt8) (p e a : Int) (w : World) (h : Reads w w.heap.size 1 A n (l.map iv)) (hn : n ≤ 100000) (hd : Dig w) (hR : enc8R l p = (o, e, a)) :
    Calls Tryd.prog 11 #[.slice A n cap, .int .i64 p] w fun x w' => x = .returned (.tuple #[.string ⟨o.toArray⟩, .agg #[.int .i64 e, .int .i64 a]]) ∧ Below w.heap.size w w' :=
  (encode8_any w.heap.size n cap A l p w h (Nat.le_refl _) hn hd).mono fun x w' ⟨h1, h2⟩ => ⟨by rw [h1, hR], h2⟩
theorem valid8H (s : List UInt8) (b : Bool) (w : World) (hs : s.length ≤ 100000) (hd : Dig w) (hR : val8 s = b) :
    Calls Tryd.prog 23 #[.string ⟨s.toArray⟩] w fun x w' => x = .returned (.bool b) ∧ Below w.heap.size w w' :=
  (valid8_any s w hs hd).mono fun x w' ⟨h1, h2⟩ => ⟨by rw [h1, hR], h2⟩
theorem length8H (c : Int) (n : Nat) (w : World) (hR : len8 c = n) : Calls Tryd.prog 12 #[.int .i64 c] w fun x w' => x = .returned (.int .i64 (n : Int)) ∧ w = w' :=
  (length8_any c w).mono fun x w' ⟨h1, h2⟩ => ⟨by rw [h1, hR], h2⟩
theorem ex81 : enc8R [65, 233, 55296] 4 = ([65, 195, 169, 92, 117, 123, 68, 56, 48, 48, 125], 0, 0) := by decide +kernel
theorem ex82 : dec8R [226, 130, 65] 2 = ([65533, 65], 0, 0) := by decide +kernel
theorem ex83 : val8 [65] = true := by decide +kernel
theorem ex84 : len8 8364 = 3 := by decide +kernel
set_option maxRecDepth 100000 in
set_option maxHeartbeats 4000000 in
theorem alive8_any (w : World) (hd : Dig w) : Calls Tryd.prog 16 #[] w fun e w' => e = .returned (.bool true) ∧ Below w.heap.size w w' := by
  have Hd := Lib.hid hd
  clear hd
  have b0 := below_new w (.cells #[.int .i64 65, .int .i64 233, .int .i64 55296] 3)
  have r0 := reads_newH w #[.int .i64 65, .int .i64 233, .int .i64 55296] 3 ([65, 233, 55296].map iv) _ rfl rfl
  go_enter Tryd.func16, Tryd.ntmps16
  go_wp2_with fail
  refine (encode8H _ 3 3 [65, 233, 55296] _ 4 0 0 _ r0 (by omega) (Hd.out.below b0) ex81).mono ?_
  rintro x w1 ⟨rfl, hb1⟩
  have b1 := b0.trans (hb1.mono b0.size)
  clear b0
  have bn2 := below_new w1 (.cells #[.int .i64 0, .int .i64 0] 24)
  have f3 := Blk.new w1 24 #[.int .i64 0, .int .i64 0]
  have l6 := f3.cell 0
  have l7 := f3.cell 1
  go_wp2_with fail
  clear l6 l7
  obtain ⟨W4, hW5⟩ : ∃ W, W = w1.alloc (.cells #[.int .i64 0, .int .i64 0] 24) := ⟨_, rfl⟩
  rw [← hW5] at f3 bn2 ⊢
  clear hW5
  have b8 := b1.trans (bn2.mono b1.size)
  clear b1
  refine (decode8H [226, 130, 65] _ 2 0 0 _ (by simp) (Hd.out.below b8) ex82).mono ?_
  rintro x w2 ⟨A2, c2, rfl, hr2, hb2⟩
  have f9 := f3.stay hb2
  have b10 := b8.trans (hb2.mono b8.size)
  clear b8
  clear f3
  have hsz2 : w2.heap.size = w2.heap.size := rfl
  clear hsz2
  have bn11 := below_new w2 (.cells #[.int .i64 0, .int .i64 0] 24)
  have f12 := Blk.new w2 24 #[.int .i64 0, .int .i64 0]
  have l15 := (f9.stay bn11).cell 0
  have l16 := (f9.stay bn11).cell 1
  have l17 := f12.cell 0
  have l18 := f12.cell 1
  go_wp2_with fail
  clear l15 l16 l17 l18
  obtain ⟨W13, hW14⟩ : ∃ W, W = w2.alloc (.cells #[.int .i64 0, .int .i64 0] 24) := ⟨_, rfl⟩
  have HS : W13.heap.size = w2.heap.size + 1 := by rw [hW14]; simp
  rw [← hW14] at f12 bn11 ⊢
  clear hW14
  have f19 := f9.stay bn11
  have f20 := hr2.stay bn11
  have b21 := b10.trans (bn11.mono b10.size)
  clear b10
  clear f9 hr2
  have bm := below_new W13 (.cells #[.int .i64 65533, .int .i64 65] 3)
  refine (equalH A2 _ 2 c2 2 2 [65533, 65] [65533, 65] _ (f20.stay bm) (reads_newH W13 #[.int .i64 65533, .int .i64 65] 3 ([65533, 65].map iv) _ HS rfl) (by omega)).mono ?_
  rintro x w5 ⟨rfl, hb5⟩
  rw [eqB_self]
  have bx5 := bm.trans (hb5.mono (by simp))
  have f22 := f19.stay bx5
  have f23 := f20.stay bx5
  have f24 := f12.stay bx5
  have b25 := b21.trans (bx5.mono b21.size)
  clear b21
  clear f19 f20 f12
  clear hb5 bm
  have l26 := f22.cell 0
  have l27 := f22.cell 1
  have l28 := f24.cell 0
  have l29 := f24.cell 1
  go_wp2_with fail
  clear l26 l27 l28 l29
  refine (length8H 8364 3 _ ex84).mono ?_
  rintro x w6 ⟨rfl, rfl⟩
  have l30 := f22.cell 0
  have l31 := f22.cell 1
  have l32 := f24.cell 0
  have l33 := f24.cell 1
  go_wp2_with fail
  clear l30 l31 l32 l33
  refine (valid8H [65] true _ (by simp) (Hd.out.below b25) ex83).mono ?_
  rintro x w7 ⟨rfl, hb7⟩
  have f34 := f22.stay hb7
  have f35 := f23.stay hb7
  have f36 := f24.stay hb7
  have b37 := b25.trans (hb7.mono b25.size)
  clear b25
  clear f22 f23 f24
  go_wp2
  go_ret
  exact ⟨rfl, b37⟩
end Go.Proofs.YthlhcengdgmgdaaDoor

/- The walk of Utf8textEncodes. -/
import Derived.Test.YthlhcengdgmgdaaDoorU8A
import Derived.Test.YthlhcengdgmgdaaDoorR8E
namespace Go.Proofs.YthlhcengdgmgdaaDoor
open Go.RowKit

theorem rencode8H (A : Option Addr) (n cap : Nat) (l : List Int) (o : List UInt8) (p e a : Int) (w : World) (h : Reads w w.heap.size 1 A n (l.map iv)) (hn : n ≤ 100000) (hR : enc8R l p = (o, e, a)) :
    Calls Tryd.prog 17 #[.slice A n cap, .int .i64 p] w fun x w' => x = .returned (.tuple #[.string ⟨o.toArray⟩, .agg #[.int .i64 e, .int .i64 a]]) ∧ Below w.heap.size w w' :=
  (rencode8_any n cap A l p w h hn).mono fun x w' ⟨h1, h2⟩ => ⟨by rw [h1, hR], h2⟩
set_option maxRecDepth 100000 in
set_option maxHeartbeats 4000000 in
theorem wk8_encodes (A : Option Addr) (n cap : Nat) (l : List Int) (p : Int) (w : World) (hr : Reads w w.heap.size 1 A n (l.map iv)) (hd : Dig w) :
    Calls Tryd.prog 4 #[.slice A n cap, .int .i64 p] w fun e w' => e = .returned (.bool true) ∧ Below w.heap.size w w' := by
  have Hd := Lib.hid hd
  clear hd
  by_cases hbig : 40 < n
  · have hbig' : (40 : Int) < (n : Int) := by omega
    go_enter Tryd.func4, Tryd.ntmps4
    go_wp2_with fail
    refine (alive8_any _ (Hd.out)).mono ?_
    rintro x wz ⟨rfl, bz⟩
    go_wp2
    go_ret
    exact ⟨rfl, bz⟩
  have hbig' : ¬ (40 : Int) < (n : Int) := by omega
  obtain ⟨⟨o, e, a⟩, hR⟩ : ∃ x, enc8R l p = x := ⟨_, rfl⟩
  have HR := Lib.hid hR
  clear hR
  go_enter Tryd.func4, Tryd.ntmps4
  go_wp2_with fail
  refine (encode8H A n cap l o p e a w hr (by omega) Hd.out HR.out).mono ?_
  rintro x w1 ⟨rfl, hb1⟩
  have f1 := hr.stay hb1
  have b2 := hb1
  clear hr
  have bn3 := below_new w1 (.cells #[.int .i64 e, .int .i64 a] 24)
  have f4 := Blk.new w1 24 #[.int .i64 e, .int .i64 a]
  have l7 := f4.cell 0
  have l8 := f4.cell 1
  go_wp2_with fail
  clear l7 l8
  obtain ⟨W5, hW6⟩ : ∃ W, W = w1.alloc (.cells #[.int .i64 e, .int .i64 a] 24) := ⟨_, rfl⟩
  rw [← hW6] at f4 bn3 ⊢
  clear hW6
  have f9 := f1.stay bn3
  have b10 := b2.trans (bn3.mono b2.size)
  clear b2
  clear f1
  refine (rencode8H A n cap l o p e a _ f9 (by omega) HR.out).mono ?_
  rintro x w2 ⟨rfl, hb2⟩
  have f11 := f9.stay hb2
  have f12 := f4.stay hb2
  have b13 := b10.trans (hb2.mono b10.size)
  clear b10
  clear f9 f4
  have bn14 := below_new w2 (.cells #[.int .i64 e, .int .i64 a] 24)
  have f15 := Blk.new w2 24 #[.int .i64 e, .int .i64 a]
  have l18 := (f12.stay bn14).cell 0
  have l19 := (f12.stay bn14).cell 1
  have l20 := f15.cell 0
  have l21 := f15.cell 1
  go_wp2_with fail
  clear l18 l19 l20 l21
  obtain ⟨W16, hW17⟩ : ∃ W, W = w2.alloc (.cells #[.int .i64 e, .int .i64 a] 24) := ⟨_, rfl⟩
  rw [← hW17] at f15 bn14 ⊢
  clear hW17
  have f22 := f11.stay bn14
  have f23 := f12.stay bn14
  have b24 := b13.trans (bn14.mono b13.size)
  clear b13
  clear f11 f12
  refine (alive8_any _ (Hd.out.below b24)).mono ?_
  rintro x wz ⟨rfl, bz⟩
  go_wp2
  go_ret
  exact ⟨rfl, b24.trans (bz.mono b24.size)⟩
end Go.Proofs.YthlhcengdgmgdaaDoor

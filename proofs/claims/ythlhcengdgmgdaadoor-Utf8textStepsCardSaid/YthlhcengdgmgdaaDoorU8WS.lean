/- The walk of Utf8textSteps. -/
import Derived.Test.YthlhcengdgmgdaaDoorU8A
import Derived.Test.YthlhcengdgmgdaaDoorR8S
namespace Go.Proofs.YthlhcengdgmgdaaDoor
open Go.RowKit

set_option maxRecDepth 100000 in
set_option maxHeartbeats 4000000 in
theorem wk8_steps (s : List UInt8) (w : World)  (hd : Dig w) :
    Calls Tryd.prog 5 #[.string ⟨s.toArray⟩] w fun e w' => e = .returned (.bool true) ∧ Below w.heap.size w w' := by
  have Hd := Lib.hid hd
  clear hd
  by_cases hbig : 200 < s.length
  · have hbig' : (200 : Int) < (s.length : Int) := by omega
    go_enter Tryd.func5, Tryd.ntmps5
    go_wp2_with fail
    refine (alive8_any _ (Hd.out)).mono ?_
    rintro x wz ⟨rfl, bz⟩
    go_wp2
    go_ret
    exact ⟨rfl, bz⟩
  have hbig' : ¬ (200 : Int) < (s.length : Int) := by omega
  obtain ⟨⟨c, n, ok⟩, hR⟩ : ∃ x, step8 s = x := ⟨_, rfl⟩
  have HR := Lib.hid hR
  clear hR
  go_enter Tryd.func5, Tryd.ntmps5
  go_wp2_with fail
  refine (step8H s c n ok _ (by omega) HR.out).mono ?_
  rintro x w1 ⟨rfl, rfl⟩
  go_wp2_with fail
  refine (rstep8H s c n ok _ (by omega) HR.out).mono ?_
  rintro x w1 ⟨rfl, rfl⟩
  go_wp2_with fail
  refine (alive8_any _ (Hd.out)).mono ?_
  rintro x wz ⟨rfl, bz⟩
  go_wp2
  go_ret
  exact ⟨rfl, bz⟩
end Go.Proofs.YthlhcengdgmgdaaDoor

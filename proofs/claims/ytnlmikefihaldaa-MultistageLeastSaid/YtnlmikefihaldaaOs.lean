/- The reference's Same. -/
import Derived.Test.YtnlmikefihaldaaMl
import Derived.Test.YtnlmikefihaldaaMk
namespace Go.Proofs.Ytnlmikefihaldaa
open Go.RowKit

set_option maxRecDepth 100000 in
set_option maxHeartbeats 4000000 in
theorem sameTab_any (A A' : Option Addr) (n c n' c' : Nat) (B B' : Option Addr) (m d m' d' : Nat) (ws : List Int) (ss : List (List Int)) (w : World) (h : Tab w w.heap.size A n c A' n' c' ws ss) (h2 : Tab w w.heap.size B m d B' m' d' ws ss) (hn : n ≤ 1000000000) (hn' : n' ≤ 1000000000) (hs : ∀ i, (stg ss i).length ≤ 1000000000) :
    Calls Try.prog 15 #[.agg #[.slice A n c, .slice A' n' c'], .agg #[.slice B m d, .slice B' m' d']] w fun e w' => e = .returned (.bool true) ∧ Below w.heap.size w w' := by
  obtain ⟨hl1, hl2⟩ := h.len
  obtain ⟨hk1, hk2⟩ := h2.len
  have hmn : m = n := by omega
  have hmn' : m' = n' := by omega
  subst hmn
  subst hmn'
  have hL : Below w.heap.size w ((w.alloc (.cells #[.slice A m c, .slice A' m' c'] 28)).alloc (.cells #[.slice B m d, .slice B' m' d'] 28)) := ((Below.refl _ w).alloc (Nat.le_refl _) _).alloc (by simp) _
  have p1 : Blk ((w.alloc (.cells #[.slice A m c, .slice A' m' c'] 28)).alloc (.cells #[.slice B m d, .slice B' m' d'] 28)) w.heap.size 28 #[.slice A m c, .slice A' m' c'] := (Blk.new w _ _).alloc _
  have p2 : Blk ((w.alloc (.cells #[.slice A m c, .slice A' m' c'] 28)).alloc (.cells #[.slice B m d, .slice B' m' d'] 28)) (w.heap.size + 1) 28 #[.slice B m d, .slice B' m' d'] := blk_at (by simp)
  have g0 := p1.cell 0
  have g1 := p1.cell 1
  have d0 := p2.cell 0
  have d1 := p2.cell 1
  have HT := Lib.hid ((h.below hL).more hL.size)
  have HT2 := Lib.hid ((h2.below hL).more hL.size)
  have HL := Lib.hid hL
  have Hs := Lib.hid hs
  clear hl1 hl2 hk1 hk2 h h2 hL p1 p2 hs
  go_enter Try.func15, Try.ntmps15
  go_wp2_with fail
  obtain ⟨W, hW⟩ : ∃ W, W = (w.alloc (.cells #[.slice A m c, .slice A' m' c'] 28)).alloc (.cells #[.slice B m d, .slice B' m' d'] 28) := ⟨_, rfl⟩
  rw [← hW] at g0 g1 d0 d1 HT HT2 HL ⊢
  clear hW
  refine (sameT_any A B m c m d ws ws W HT.out.widths HT2.out.widths hn hn).mono ?_
  rintro e w1 ⟨hsay, q, rfl⟩
  have hsay2 := says_is hsay (b := true) ⟨fun _ => rfl, fun _ => rfl⟩
  subst hsay2
  clear hsay
  go_wp2
  go_loopw [5] (fun s5 wr => ∃ k : Nat, k ≤ m' ∧ s5 = .int .i64 (k : Int) ∧ Hid (∃ q, wr = W.drewN q)) (fun s5 _ => m' - (intOf s5).toNat)
  case atStart => exact ⟨0, by omega, rfl, Lib.hid ⟨_, rfl⟩⟩
  case round =>
    obtain ⟨k, hk, rfl, Hq⟩ := hrel
    obtain ⟨q, hq⟩ := Hq.out
    have HTw := Lib.hid (show Tab wr wr.heap.size A m c A' m' c' ws ss by rw [hq]; exact HT.out.keep fun _ _ => rfl)
    have HT2w := Lib.hid (show Tab wr wr.heap.size B m d B' m' d' ws ss by rw [hq]; exact HT2.out.keep fun _ _ => rfl)
    have HLw := Lib.hid (show Below w.heap.size w wr by rw [hq]; exact below_drewN HL.out _)
    have g0 : wr.cell? ⟨w.heap.size, 0, none⟩ = some (.slice A m c) := by rw [hq]; exact g0
    have g1 : wr.cell? ⟨w.heap.size, 1, none⟩ = some (.slice A' m' c') := by rw [hq]; exact g1
    have d0 : wr.cell? ⟨w.heap.size + 1, 0, none⟩ = some (.slice B m d) := by rw [hq]; exact d0
    have d1 : wr.cell? ⟨w.heap.size + 1, 1, none⟩ = some (.slice B' m' d') := by rw [hq]; exact d1
    clear hq
    by_cases hlt : k < m'
    · obtain ⟨ad1, A1, c1, rfl, had1, hc1, hcap1, hr1⟩ := HTw.out.at_ (k := k) hlt
      obtain ⟨ad3, A3, c3, rfl, had3, hc3, hcap3, hr3⟩ := HT2w.out.at_ (k := k) hlt
      have hki : (k : Int) < (m' : Int) := by omega
      have hlk := Hs.out k
      obtain ⟨L1, hL1⟩ : ∃ L, L = (stg ss k).length := ⟨_, rfl⟩
      rw [← hL1] at hc1 hc3 hr1 hr3 hlk
      have CS := Lib.hid (show ∀ t : Nat, Calls Try.prog 43 #[.slice A1 L1 c1, .slice A3 L1 c3] (wr.drewN t) fun e w' => e = .returned (.bool true) ∧ ∃ m, w' = (wr.drewN t).drewN m from fun t =>
        (sameT_any A1 A3 L1 c1 L1 c3 (stg ss k) (stg ss k) (wr.drewN t) (hr1.drewN t) (hr3.drewN t) hlk hlk).mono fun e w' ⟨h1, h2⟩ => ⟨says_is h1 ⟨fun _ => rfl, fun _ => rfl⟩, h2⟩)
      clear hL1 hcap1 hcap3 hr1 hr3
      go_wp2_with fail
      go_quiet ((go_at_call 43; exact Calls.quiet_of (CS.out _)))
      go_wp2
      go_roundw
      case rel => exact ⟨k + 1, by omega, by go_num, by obtain ⟨q, hq⟩ := Hq.out; exact Lib.hid ⟨q + nq, by rw [hq]; simp⟩⟩
      case measure => simp [intOf]; omega
    · have hki : ¬ (k : Int) < (m' : Int) := by omega
      go_wp2
      go_ret
      exact ⟨rfl, HLw.out⟩

end Go.Proofs.Ytnlmikefihaldaa

/- The reference's Same; unicodetextlaw13.MultistageBuilds. -/
import Derived.Test.YtnlmikefihaldaaNe
import Derived.Test.YtnlmikefihaldaaMr
namespace Go.Proofs.Ytnlmikefihaldaa
open Go.RowKit

set_option maxRecDepth 100000 in
set_option maxHeartbeats 4000000 in
theorem sameTab_any (A A' : Option Addr) (n c n' c' : Nat) (B B' : Option Addr) (m d m' d' : Nat) (ws : List Int) (ss : List (List Int)) (w : World) (h : Tab w w.heap.size A n c A' n' c' ws ss) (h2 : Tab w w.heap.size B m d B' m' d' ws ss) (hn : n ≤ 1000000000) (hn' : n' ≤ 1000000000) (hs : ∀ i, (stg ss i).length ≤ 1000000000) :
    Calls Try.prog 15 #[.agg #[.slice A n c, .slice A' n' c'], .agg #[.slice B m d, .slice B' m' d']] w fun e w' => e = .returned (.bool true) ∧ Below w.heap.size w w' := by
  obtain ⟨hl1, hl2⟩ := h.len
  obtain ⟨hk1, hk2⟩ := h2.len
  have hmn : m = n := by omega
  have hmn' : m' = n' := by omega
  subst hmn
  subst hmn'
  have hL : Below w.heap.size w ((w.alloc (.cells #[.slice A m c, .slice A' m' c'] 28)).alloc (.cells #[.slice B m d, .slice B' m' d'] 28)) := ((Below.refl _ w).alloc (Nat.le_refl _) _).alloc (by simp) _
  have p1 : Blk ((w.alloc (.cells #[.slice A m c, .slice A' m' c'] 28)).alloc (.cells #[.slice B m d, .slice B' m' d'] 28)) w.heap.size 28 #[.slice A m c, .slice A' m' c'] := (Blk.new w _ _).alloc _
  have p2 : Blk ((w.alloc (.cells #[.slice A m c, .slice A' m' c'] 28)).alloc (.cells #[.slice B m d, .slice B' m' d'] 28)) (w.heap.size + 1) 28 #[.slice B m d, .slice B' m' d'] := blk_at (by simp)
  have g0 := p1.cell 0
  have g1 := p1.cell 1
  have d0 := p2.cell 0
  have d1 := p2.cell 1
  have HT := Lib.hid ((h.below hL).more hL.size)
  have HT2 := Lib.hid ((h2.below hL).more hL.size)
  have HL := Lib.hid hL
  have Hs := Lib.hid hs
  clear hl1 hl2 hk1 hk2 h h2 hL p1 p2 hs
  go_enter Try.func15, Try.ntmps15
  go_wp2_with fail
  obtain ⟨W, hW⟩ : ∃ W, W = (w.alloc (.cells #[.slice A m c, .slice A' m' c'] 28)).alloc (.cells #[.slice B m d, .slice B' m' d'] 28) := ⟨_, rfl⟩
  rw [← hW] at g0 g1 d0 d1 HT HT2 HL ⊢
  clear hW
  refine (sameT_any A B m c m d ws ws W HT.out.widths HT2.out.widths hn hn).mono ?_
  rintro e w1 ⟨hsay, q, rfl⟩
  have hsay2 := says_is hsay (b := true) ⟨fun _ => rfl, fun _ => rfl⟩
  subst hsay2
  clear hsay
  go_wp2
  go_loopw [5] (fun s5 wr => ∃ k : Nat, k ≤ m' ∧ s5 = .int .i64 (k : Int) ∧ Hid (∃ q, wr = W.drewN q)) (fun s5 _ => m' - (intOf s5).toNat)
  case atStart => exact ⟨0, by omega, rfl, Lib.hid ⟨_, rfl⟩⟩
  case round =>
    obtain ⟨k, hk, rfl, Hq⟩ := hrel
    obtain ⟨q, hq⟩ := Hq.out
    have HTw := Lib.hid (show Tab wr wr.heap.size A m c A' m' c' ws ss by rw [hq]; exact HT.out.keep fun _ _ => rfl)
    have HT2w := Lib.hid (show Tab wr wr.heap.size B m d B' m' d' ws ss by rw [hq]; exact HT2.out.keep fun _ _ => rfl)
    have HLw := Lib.hid (show Below w.heap.size w wr by rw [hq]; exact below_drewN HL.out _)
    have g0 : wr.cell? ⟨w.heap.size, 0, none⟩ = some (.slice A m c) := by rw [hq]; exact g0
    have g1 : wr.cell? ⟨w.heap.size, 1, none⟩ = some (.slice A' m' c') := by rw [hq]; exact g1
    have d0 : wr.cell? ⟨w.heap.size + 1, 0, none⟩ = some (.slice B m d) := by rw [hq]; exact d0
    have d1 : wr.cell? ⟨w.heap.size + 1, 1, none⟩ = some (.slice B' m' d') := by rw [hq]; exact d1
    clear hq
    by_cases hlt : k < m'
    · obtain ⟨ad1, A1, c1, rfl, had1, hc1, hcap1, hr1⟩ := HTw.out.at_ (k := k) hlt
      obtain ⟨ad3, A3, c3, rfl, had3, hc3, hcap3, hr3⟩ := HT2w.out.at_ (k := k) hlt
      have hki : (k : Int) < (m' : Int) := by omega
      have hlk := Hs.out k
      obtain ⟨L1, hL1⟩ : ∃ L, L = (stg ss k).length := ⟨_, rfl⟩
      rw [← hL1] at hc1 hc3 hr1 hr3 hlk
      have CS := Lib.hid (show ∀ t : Nat, Calls Try.prog 43 #[.slice A1 L1 c1, .slice A3 L1 c3] (wr.drewN t) fun e w' => e = .returned (.bool true) ∧ ∃ m, w' = (wr.drewN t).drewN m from fun t =>
        (sameT_any A1 A3 L1 c1 L1 c3 (stg ss k) (stg ss k) (wr.drewN t) (hr1.drewN t) (hr3.drewN t) hlk hlk).mono fun e w' ⟨h1, h2⟩ => ⟨says_is h1 ⟨fun _ => rfl, fun _ => rfl⟩, h2⟩)
      clear hL1 hcap1 hcap3 hr1 hr3
      go_wp2_with fail
      go_quiet ((go_at_call 43; exact Calls.quiet_of (CS.out _)))
      go_wp2
      go_roundw
      case rel => exact ⟨k + 1, by omega, by go_num, by obtain ⟨q, hq⟩ := Hq.out; exact Lib.hid ⟨q + nq, by rw [hq]; simp⟩⟩
      case measure => simp [intOf]; omega
    · have hki : ¬ (k : Int) < (m' : Int) := by omega
      go_wp2
      go_ret
      exact ⟨rfl, HLw.out⟩

theorem Tab.nil (w : World) (B : Nat) : Tab w B none 0 0 none 0 0 [] [] := ⟨Reads.none_, Nat.le_refl _, [], Reads.none_, rfl, fun i xs h => by simp at h⟩
/-- what Build hands back, as a table -/
theorem buildE_tab {l : List (Int × Int × Int)} {ws : List Int} {m : Nat} {e : Ending} {w : World} (hb : BuildE l ws m e w) : ∃ a1 b1 e1 a2 b2 e2 ex ws' ss', e = .returned (.tuple #[.agg #[.slice a1 b1 e1, .slice a2 b2 e2], .int .i64 ex]) ∧ ChkR l ws ex ∧ b1 ≤ m ∧ b2 ≤ m + 1 ∧ Tab w w.heap.size a1 b1 e1 a2 b2 e2 ws' ss' ∧ (∀ i, (stg ss' i).length ≤ 1000000000) ∧
    ((ex ≠ 0 ∧ ws' = [] ∧ ss' = []) ∨ (ex = 0 ∧ ws' = ws ∧ CanT l ws ss')) := by
  rcases buildE_cases hb with ⟨r, hr0, hr, rfl⟩ | ⟨hr, A3, c3, A4, c4, ss, rfl, hT, hC⟩
  · exact ⟨_, _, _, _, _, _, _, _, _, rfl, hr, by omega, by omega, Tab.nil _ _, fun i => by simp [stg], .inl ⟨hr0, rfl, rfl⟩⟩
  · exact ⟨_, _, _, _, _, _, _, _, _, rfl, hr, Nat.le_refl _, Nat.le_refl _, hT, fun i => Nat.le_trans (hC.len i) (by omega), .inr ⟨rfl, rfl, hC⟩⟩
theorem can_uniq {l : List (Int × Int × Int)} {ws : List Int} {ss ss' : List (List Int)} (h : CanT l ws ss) (h' : CanT l ws ss') : ss = ss' := okT_uniq h.ok h'.ok fun c hc => by rw [h.val c hc, h'.val c hc]

set_option maxRecDepth 100000 in
set_option maxHeartbeats 4000000 in
theorem wk_builds (A0 : Option Addr) (n0 c0 : Nat) (l : List (Int × Int × Int)) (A1 : Option Addr) (n1 c1 : Nat) (ws : List Int) (w : World) (r0 : Reads w w.heap.size 3 A0 n0 (l.flatMap spv)) (m0 : n0 ≤ c0) (i0 : W64s l)
    (r1 : Reads w w.heap.size 1 A1 n1 (ws.map iv)) (m1 : n1 ≤ c1) (_i1 : ∀ x ∈ ws, W64 x) :
    Calls Try.prog 3 #[.slice A0 n0 c0, .slice A1 n1 c1] w fun e w' => e = .returned (.bool true) ∧ Below w.heap.size w w' := by
  have R0 := Lib.hid r0
  have R1 := Lib.hid r1
  have I0 := Lib.hid i0
  clear r0 r1 i0 _i1
  go_enter Try.func3, Try.ntmps3
  go_wp2_with fail
  refine (few_any A0 A1 n0 c0 n1 c1 w).mono ?_
  rintro e w1 ⟨rfl, rfl⟩
  by_cases hf : n0 ≤ 40 ∧ n1 ≤ 6
  rotate_left
  · rw [decide_eq_false hf]
    clear hf
    go_wp2_with fail
    refine (awake_any w1).mono ?_
    rintro e w2 ⟨rfl, hb2⟩
    go_wp2
    go_ret
    exact ⟨rfl, hb2⟩
  rw [decide_eq_true hf]
  obtain ⟨hf0, hf1⟩ := hf
  go_wp2_with fail
  refine (build_any A0 n0 c0 l A1 n1 c1 ws w1 R0.out R1.out (by omega) m1 (by omega) I0.out).mono ?_
  rintro e w2 ⟨hE, hb2⟩
  obtain ⟨a1, b1, e1, a2, b2, e2, ex, ws1, ss1, rfl, hx, hbb1, hbb2, hT, hln, hcase⟩ := buildE_tab hE
  have hbn := (Below.refl w2.heap.size w2).alloc (Nat.le_refl _) (.cells #[.slice a1 b1 e1, .slice a2 b2 e2] 28)
  have HBk := Lib.hid (Blk.new w2 28 #[.slice a1 b1 e1, .slice a2 b2 e2])
  have HT := Lib.hid ((hT.below hbn).more hbn.size)
  have HB3 := Lib.hid (hb2.trans (hbn.mono hb2.size))
  have Hx := Lib.hid hx
  have Hln := Lib.hid hln
  have Hcase := Lib.hid hcase
  clear hE hb2 hbn hT hx hln hcase
  go_wp2_with fail
  obtain ⟨w3, hw3⟩ : ∃ w3, w3 = w2.alloc (.cells #[.slice a1 b1 e1, .slice a2 b2 e2] 28) := ⟨_, rfl⟩
  rw [← hw3] at HBk HT HB3 ⊢
  clear hw3
  refine (rbuild_any A0 n0 c0 l A1 n1 c1 ws w3 ((R0.out.below HB3.out).more HB3.out.size) m0 ((R1.out.below HB3.out).more HB3.out.size) (by omega) m1 (by omega) I0.out).mono ?_
  rintro e w4 ⟨hE, hb4⟩
  obtain ⟨a3, b3, e3, a4, b4, e4, ey, ws2, ss2, rfl, hy, hbb3, hbb4, hT2, hln2, hcase2⟩ := buildE_tab hE
  have hexy := Hx.out.same hy
  subst hexy
  have hss : ws2 = ws1 ∧ ss2 = ss1 := by
    rcases Hcase.out with ⟨h1, h2, h3⟩ | ⟨h1, h2, h3⟩ <;> rcases hcase2 with ⟨k1, k2, k3⟩ | ⟨k1, k2, k3⟩
    · exact ⟨by rw [h2, k2], by rw [h3, k3]⟩
    · exact absurd k1 h1
    · exact absurd h1 k1
    · exact ⟨by rw [h2, k2], can_uniq k3 h3⟩
  obtain ⟨rfl, rfl⟩ := hss
  have hbn := (Below.refl w4.heap.size w4).alloc (Nat.le_refl _) (.cells #[.slice a3 b3 e3, .slice a4 b4 e4] 28)
  have HBk2 := Lib.hid (Blk.new w4 28 #[.slice a3 b3 e3, .slice a4 b4 e4])
  have HT2 := Lib.hid ((hT2.below hbn).more hbn.size)
  have hb34 := hb4.trans (hbn.mono hb4.size)
  have HT1 := Lib.hid ((HT.out.below hb34).more hb34.size)
  have HBk1 := Lib.hid ((HBk.out.stay hb4).stay hbn)
  have HB5 := Lib.hid (HB3.out.trans (hb34.mono HB3.out.size))
  clear hE hy hT2 hln2 hcase2 hbn hb34 hb4
  go_wp2_with fail
  obtain ⟨w5, hw5⟩ : ∃ w5, w5 = w4.alloc (.cells #[.slice a3 b3 e3, .slice a4 b4 e4] 28) := ⟨_, rfl⟩
  rw [← hw5] at HBk2 HT2 HT1 HBk1 HB5 ⊢
  clear hw5
  refine (check_any A0 n0 c0 l A1 n1 c1 ws w5 ((R0.out.below HB5.out).more HB5.out.size) ((R1.out.below HB5.out).more HB5.out.size) (by omega) m1 (by omega)).mono ?_
  rintro e w6 ⟨⟨r, rfl, hr⟩, hb6⟩
  have hrx := hr.same Hx.out
  subst hrx
  have HT1' := Lib.hid ((HT1.out.below hb6).more hb6.size)
  have HT2' := Lib.hid ((HT2.out.below hb6).more hb6.size)
  have HBk1' := Lib.hid (HBk1.out.stay hb6)
  have HBk2' := Lib.hid (HBk2.out.stay hb6)
  have HB6 := Lib.hid (HB5.out.trans (hb6.mono HB5.out.size))
  clear hr hb6
  have g0 := HBk1'.out.cell 0
  have g1 := HBk1'.out.cell 1
  have d0 := HBk2'.out.cell 0
  have d1 := HBk2'.out.cell 1
  go_wp2_with fail
  clear g0 g1 d0 d1
  refine (sameTab_any a1 a2 b1 e1 b2 e2 a3 a4 b3 e3 b4 e4 _ _ w6 HT1'.out HT2'.out (by omega) (by omega) Hln.out).mono ?_
  rintro e w7 ⟨rfl, hb7⟩
  have HB7 := Lib.hid (HB6.out.trans (hb7.mono HB6.out.size))
  clear hb7
  go_wp2_with fail
  refine (awake_any w7).mono ?_
  rintro e w8 ⟨rfl, hb8⟩
  have HE := Lib.hid (HB7.out.trans (hb8.mono HB7.out.size))
  clear hb8
  go_wp2
  go_ret
  exact ⟨rfl, HE.out⟩
end Go.Proofs.Ytnlmikefihaldaa

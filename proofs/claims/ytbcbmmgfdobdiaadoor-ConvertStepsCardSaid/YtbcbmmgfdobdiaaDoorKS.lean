/- The walk of ConvertSteps. -/
import Derived.Test.YtbcbmmgfdobdiaaDoorRK6
namespace Go.Proofs.YtbcbmmgfdobdiaaDoor
open Go.RowKit

set_option maxRecDepth 100000 in
set_option maxHeartbeats 4000000 in
theorem wk_steps (k : Int) (A : Option Addr) (n c : Nat) (codes : List Int) (s : List UInt8) (z : Int) (w : World) (hr : Reads w w.heap.size 1 A n (codes.map iv)) (hz : -9223372036854775808 ≤ z ∧ z ≤ 9223372036854775807) (hd : Dig w) :
    Calls Tryd.prog 7 #[.agg #[.int .i64 k, .slice A n c], .string ⟨s.toArray⟩, .int .i64 z] w fun e w' => e = .returned (.bool true) ∧ Below w.heap.size w w' := by
  have HB := Lib.hid (Blk.new w 26 #[.int .i64 k, .slice A n c])
  have hL := below_new w (.cells #[.int .i64 k, .slice A n c] 26)
  have HL := Lib.hid hL
  have HR := Lib.hid (hr.stay hL)
  have HD := Lib.hid (hd.below hL)
  have HZ := Lib.hid hz
  have g0 := HB.out.cell 0
  have g1 := HB.out.cell 1
  clear hL hr hd hz
  go_enter Tryd.func7, Tryd.ntmps7
  go_wp2_with fail
  clear g0 g1
  obtain ⟨W, hW⟩ : ∃ W, W = w.alloc (.cells #[.int .i64 k, .slice A n c] 26) := ⟨_, rfl⟩
  rw [← hW] at HB HL HR HD ⊢
  clear hW
  refine (few_any k A n c W).mono ?_
  rintro x w1 ⟨rfl, hb1⟩
  have HB1 := Lib.hid (HB.out.stay hb1)
  have HL1 := Lib.hid (HL.out.trans (hb1.mono HL.out.size))
  have HR1 := Lib.hid (HR.out.stay hb1)
  have HD1 := Lib.hid (HD.out.below hb1)
  clear HB HL HR HD hb1
  obtain ⟨e1, hC1⟩ := CkE_some k codes
  have HC1 := Lib.hid hC1
  clear hC1
  have hcase : (¬ (n : Int) ≤ 300) ∨ ((n : Int) ≤ 300 ∧ (300 : Int) < s.length) ∨ ((n : Int) ≤ 300 ∧ ¬ (300 : Int) < s.length) := by omega
  rcases hcase with h1 | ⟨h1, h2⟩ | ⟨hn, hsl⟩
  iterate 2
    · go_wp2_with fail
      refine (awake7 _ HD1.out).mono ?_
      rintro x w2 ⟨rfl, hb2⟩
      go_wp2
      go_ret
      exact ⟨rfl, HL1.out.trans (hb2.mono HL1.out.size)⟩
  have HS := Lib.hid (show s.length ≤ 300 by omega)
  -- the second half, from whatever the first has left
  have g0 := HB1.out.cell 0
  have g1 := HB1.out.cell 1
  go_wp2_with fail
  clear g0 g1
  refine (cstep_any k A n c codes e1 s w1 HR1.out HC1.out (by have := HS.out; omega) HD1.out).mono ?_
  rintro x w2 ⟨rfl, hb2⟩
  have HB2 := Lib.hid (HB1.out.stay hb2)
  have HL2 := Lib.hid (HL1.out.trans (hb2.mono HL1.out.size))
  have HR2 := Lib.hid (HR1.out.stay hb2)
  have HD2 := Lib.hid (HD1.out.below hb2)
  clear HB1 HL1 HR1 HD1 hb2
  obtain ⟨⟨y, m, b⟩, hy⟩ : ∃ r, stR e1 (cdOf k codes) s = r := ⟨_, rfl⟩
  have HY := Lib.hid hy
  rw [hy]
  clear hy
  simp only [trip64]
  have g0 := HB2.out.cell 0
  have g1 := HB2.out.cell 1
  go_wp2_with fail
  clear g0 g1
  refine (rstep_any k A n c codes e1 s w2 HR2.out HC1.out (by have := HS.out; omega)).mono ?_
  rintro x w3 ⟨rfl, hb3⟩
  have HB3 := Lib.hid (HB2.out.stay hb3)
  have HL3 := Lib.hid (HL2.out.trans (hb3.mono HL2.out.size))
  have HR3 := Lib.hid (HR2.out.stay hb3)
  have HD3 := Lib.hid (HD2.out.below hb3)
  clear HB2 HL2 HR2 HD2 hb3
  rw [HY.out]
  simp only [trip64]
  have g0 := HB3.out.cell 0
  have g1 := HB3.out.cell 1
  go_wp2_with fail
  clear g0 g1
  refine (cput_any k A n c codes e1 z w3 HR3.out HC1.out HZ.out HD3.out).mono ?_
  rintro x w4 ⟨rfl, hb4⟩
  have HB4 := Lib.hid (HB3.out.stay hb4)
  have HL4 := Lib.hid (HL3.out.trans (hb4.mono HL3.out.size))
  have HR4 := Lib.hid (HR3.out.stay hb4)
  have HD4 := Lib.hid (HD3.out.below hb4)
  clear HB3 HL3 HR3 HD3 hb4
  obtain ⟨p, f, hp⟩ : ∃ (p : List UInt8) (f : Bool), formV (puR e1 (cdOf k codes) z) = .tuple #[.string ⟨p.toArray⟩, .bool f] := ⟨_, _, rfl⟩
  have HP := Lib.hid hp
  rw [hp]
  clear hp
  have g0 := HB4.out.cell 0
  have g1 := HB4.out.cell 1
  go_wp2_with fail
  clear g0 g1
  refine (rput_any k A n c codes e1 z w4 HR4.out HC1.out).mono ?_
  rintro x w5 ⟨rfl, hb5⟩
  have HB5 := Lib.hid (HB4.out.stay hb5)
  have HL5 := Lib.hid (HL4.out.trans (hb5.mono HL4.out.size))
  have HR5 := Lib.hid (HR4.out.stay hb5)
  have HD5 := Lib.hid (HD4.out.below hb5)
  clear HB4 HL4 HR4 HD4 hb5
  rw [HP.out]
  go_wp2_with fail
  refine (guess_any s w5 (by have := HS.out; omega)).mono ?_
  rintro x w6 ⟨rfl, rfl⟩
  obtain ⟨⟨q1, q2⟩, hq⟩ : ∃ r, guessR s = r := ⟨_, rfl⟩
  have HQ := Lib.hid hq
  rw [hq]
  clear hq
  simp only
  go_wp2_with fail
  refine (rguess_any s w6 (by have := HS.out; omega)).mono ?_
  rintro x w7 ⟨rfl, rfl⟩
  rw [HQ.out]
  simp only
  have C1 := Lib.hid (show ∀ u, Below w7.heap.size w7 u → Calls Tryd.prog 32 #[.agg #[.int .i64 k, .slice A n c]] u fun e v => e = .returned (.int .i64 e1) ∧ Below w7.heap.size w7 v from fun u hu =>
    (checkE_any k A n c codes e1 u (HR5.out.stay hu) HC1.out).mono fun e v ⟨h1, h2⟩ => ⟨h1, hu.trans (h2.mono hu.size)⟩)
  have C2 := Lib.hid (show ∀ u, Below w7.heap.size w7 u → Calls Tryd.prog 25 #[.agg #[.int .i64 k, .slice A n c]] u fun e v => e = .returned (.int .i64 e1) ∧ Below w7.heap.size w7 v from fun u hu =>
    (rcheck_any k A n c codes e1 u (HR5.out.stay hu) HC1.out).mono fun e v ⟨h1, h2⟩ => ⟨h1, hu.trans (h2.mono hu.size)⟩)
  have C3 := Lib.hid (show ∀ u, Below w7.heap.size w7 u → Calls Tryd.prog 23 #[] u fun e v => e = .returned (.bool true) ∧ Below w7.heap.size w7 v from fun u hu =>
    (awake7 u (HD5.out.below hu)).mono fun e v ⟨h1, h2⟩ => ⟨h1, hu.trans (h2.mono hu.size)⟩)
  have KK := Lib.hid (show ∀ u, Below w7.heap.size w7 u → u.cell? ⟨w.heap.size, 0, none⟩ = some (.int .i64 k) ∧ u.cell? ⟨w.heap.size, 1, none⟩ = some (.slice A n c) from fun u hu => ⟨(HB5.out.stay hu).cell 0, (HB5.out.stay hu).cell 1⟩)
  have hbS : Below w7.heap.size w7 w7.drew := (Below.refl _ _).drew
  go_wp2_with fail
  go_region_held3 (fun u => Below w7.heap.size w7 u ∧ u.cell? ⟨w.heap.size, 0, none⟩ = some (.int .i64 k) ∧ u.cell? ⟨w.heap.size, 1, none⟩ = some (.slice A n c)) (first | exact ⟨hbS, KK.out _ hbS⟩ | exact ⟨(Below.refl _ _).drew, KK.out _ (Below.refl _ _).drew⟩) (first | (go_at_call 32; ((with_reducible refine (C1.out _ hbS).mono ?_); rintro r u ⟨rfl, hbu⟩; clear hbS; have hbS := hbu; clear hbu)) | (go_at_call 25; ((with_reducible refine (C2.out _ hbS).mono ?_); rintro r u ⟨rfl, hbu⟩; clear hbS; have hbS := hbu; clear hbu)) | (go_at_call 23; ((with_reducible refine (C3.out _ hbS).mono ?_); rintro r u ⟨rfl, hbu⟩; clear hbS; have hbS := hbu; clear hbu)))
  all_goals
    go_wp2
    go_ret
    exact ⟨rfl, HL5.out.trans (hbS.mono HL5.out.size)⟩
end Go.Proofs.YtbcbmmgfdobdiaaDoor

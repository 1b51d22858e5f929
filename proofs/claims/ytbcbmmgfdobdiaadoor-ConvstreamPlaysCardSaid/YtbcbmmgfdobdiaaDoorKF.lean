/- The walk of ConvertForms. -/
import Derived.Test.YtbcbmmgfdobdiaaDoorK9
namespace Go.Proofs.YtbcbmmgfdobdiaaDoor
open Go.RowKit

def stR (e : Int) (K : Cd) (s : List UInt8) : Nat × Nat × Bool := if e = 0 then stepK K s else (0, 0, false)
def puR (e : Int) (K : Cd) (c : Int) : Option (List UInt8) := if e = 0 then formK K c else none
theorem cstep_any (kind : Int) (A : Option Addr) (n c : Nat) (codes : List Int) (e : Int) (s : List UInt8) (w : World) (h : Reads w w.heap.size 1 A n (codes.map iv)) (hC : CkE kind codes e) (hs : s.length ≤ 1000000) (hdg : Dig w) :
    Calls Tryd.prog 27 #[.agg #[.int .i64 kind, .slice A n c], .string ⟨s.toArray⟩] w fun x w' => x = .returned (trip64 (stR e (cdOf kind codes) s)) ∧ Below w.heap.size w w' := by
  unfold stR
  by_cases he : e = 0
  · rw [if_pos he]; subst he; exact cstep_good kind A n c codes s w h hC hs hdg
  · rw [if_neg he]; exact cstep_bad kind A n c codes e s w h hC he
theorem cput_any (kind : Int) (A : Option Addr) (n c : Nat) (codes : List Int) (e x : Int) (w : World) (h : Reads w w.heap.size 1 A n (codes.map iv)) (hC : CkE kind codes e) (hx : -9223372036854775808 ≤ x ∧ x ≤ 9223372036854775807) (hdg : Dig w) :
    Calls Tryd.prog 28 #[.agg #[.int .i64 kind, .slice A n c], .int .i64 x] w fun r w' => r = .returned (formV (puR e (cdOf kind codes) x)) ∧ Below w.heap.size w w' := by
  unfold puR
  by_cases he : e = 0
  · rw [if_pos he]; subst he; exact put_good kind A n c codes x w h hC hx hdg
  · rw [if_neg he]; exact put_bad kind A n c codes e x w h hC he
theorem stR_ok {kind e : Int} {codes : List Int} {s : List UInt8} {c n : Nat} (hC : CkE kind codes e) (h : stR e (cdOf kind codes) s = (c, n, true)) : puR e (cdOf kind codes) (c : Int) = some (s.take n) ∧ 1 ≤ n ∧ n ≤ s.length ∧ c ≤ 1114111 := by
  unfold stR at h
  unfold puR
  by_cases he : e = 0
  · rw [if_pos he] at h ⊢
    subst he
    obtain ⟨h1, h2⟩ := stepK_ok (good_cd hC) h
    have hs : s ≠ [] := by
      rintro rfl
      have := (formK_ne h1).1
      simp at this
    have hb := stepK_bd (cdOf kind codes) s hs
    rw [h] at hb
    simp only [scalB, decide_eq_true_eq] at h2
    simp only at hb
    exact ⟨h1, hb.1, hb.2.2, by omega⟩
  · rw [if_neg he] at h; simp at h
theorem puR_ok {kind e : Int} {codes : List Int} {c : Int} {x : List UInt8} (hC : CkE kind codes e) (h : puR e (cdOf kind codes) c = some x) (t : List UInt8) : stR e (cdOf kind codes) (x ++ t) = (c.toNat, x.length, true) ∧ 0 ≤ c ∧ x.length ≤ 4 := by
  unfold puR at h
  unfold stR
  by_cases he : e = 0
  · rw [if_pos he] at h ⊢
    subst he
    obtain ⟨h1, h2, h3⟩ := stepK_form (good_cd hC) h t
    exact ⟨h1, h2, (formK_ne h).2⟩
  · rw [if_neg he] at h; cases h

set_option maxRecDepth 100000 in
set_option maxHeartbeats 4000000 in
theorem wk_forms (k : Int) (A : Option Addr) (n c : Nat) (codes : List Int) (s : List UInt8) (z : Int) (w : World) (hr : Reads w w.heap.size 1 A n (codes.map iv)) (hz : -9223372036854775808 ≤ z ∧ z ≤ 9223372036854775807) (hd : Dig w) :
    Calls Tryd.prog 8 #[.agg #[.int .i64 k, .slice A n c], .string ⟨s.toArray⟩, .int .i64 z] w fun e w' => e = .returned (.bool true) ∧ Below w.heap.size w w' := by
  have HB := Lib.hid (Blk.new w 26 #[.int .i64 k, .slice A n c])
  have hL := below_new w (.cells #[.int .i64 k, .slice A n c] 26)
  have HL := Lib.hid hL
  have HR := Lib.hid (hr.stay hL)
  have HD := Lib.hid (hd.below hL)
  have HZ := Lib.hid hz
  have g0 := HB.out.cell 0
  have g1 := HB.out.cell 1
  clear hL hr hd hz
  go_enter Tryd.func8, Tryd.ntmps8
  go_wp2_with fail
  clear g0 g1
  obtain ⟨W, hW⟩ : ∃ W, W = w.alloc (.cells #[.int .i64 k, .slice A n c] 26) := ⟨_, rfl⟩
  rw [← hW] at HB HL HR HD ⊢
  clear hW
  refine (few_any k A n c W).mono ?_
  rintro x w1 ⟨rfl, hb1⟩
  have HB1 := Lib.hid (HB.out.stay hb1)
  have HL1 := Lib.hid (HL.out.trans (hb1.mono HL.out.size))
  have HR1 := Lib.hid (HR.out.stay hb1)
  have HD1 := Lib.hid (HD.out.below hb1)
  clear HB HL HR HD hb1
  obtain ⟨e1, hC1⟩ := CkE_some k codes
  have HC1 := Lib.hid hC1
  clear hC1
  have hcase : (¬ (n : Int) ≤ 300) ∨ ((n : Int) ≤ 300 ∧ (300 : Int) < s.length) ∨ ((n : Int) ≤ 300 ∧ ¬ (300 : Int) < s.length) := by omega
  rcases hcase with h1 | ⟨h1, h2⟩ | ⟨hn, hsl⟩
  iterate 2
    · go_wp2_with fail
      refine (awake7 _ HD1.out).mono ?_
      rintro x w2 ⟨rfl, hb2⟩
      go_wp2
      go_ret
      exact ⟨rfl, HL1.out.trans (hb2.mono HL1.out.size)⟩
  have HS := Lib.hid (show s.length ≤ 300 by omega)
  -- the second half, from whatever the first has left
  have g0 := HB1.out.cell 0
  have g1 := HB1.out.cell 1
  go_wp2_with fail
  clear g0 g1
  refine (cstep_any k A n c codes e1 s w1 HR1.out HC1.out (by have := HS.out; omega) HD1.out).mono ?_
  rintro x w2 ⟨rfl, hb2⟩
  have HB2 := Lib.hid (HB1.out.stay hb2)
  have HL2 := Lib.hid (HL1.out.trans (hb2.mono HL1.out.size))
  have HR2 := Lib.hid (HR1.out.stay hb2)
  have HD2 := Lib.hid (HD1.out.below hb2)
  clear HB1 HL1 HR1 HD1 hb2
  obtain ⟨⟨y, m, b⟩, hy⟩ : ∃ r, stR e1 (cdOf k codes) s = r := ⟨_, rfl⟩
  have HY := Lib.hid hy
  rw [hy]
  clear hy
  simp only [trip64]
  have g0 := HB2.out.cell 0
  have g1 := HB2.out.cell 1
  cases b with
  | true =>
    obtain ⟨hpu, hm1, hms, hyl⟩ := stR_ok HC1.out HY.out
    have HP := Lib.hid hpu
    have hm1' : ¬ (m : Int) < 1 := by omega
    have hms' : ¬ (s.length : Int) < (m : Int) := by omega
    have hex : (⟨s.toArray⟩ : ByteArray).extract 0 m = ⟨(s.take m).toArray⟩ := by apply ByteArray.ext; simp
    have Hm1 := Lib.hid hm1'
    have Hms := Lib.hid hms'
    have Hex := Lib.hid hex
    have Hml := Lib.hid hms
    have Hyl := Lib.hid hyl
    clear hpu hm1 hm1' hms' hex hms hyl
    go_wp2_with fail
    clear g0 g1
    refine (cput_any k A n c codes e1 (y : Int) w2 HR2.out HC1.out (by have := Hyl.out; omega) HD2.out).mono ?_
    rintro x w3 ⟨rfl, hb3⟩
    have HB3 := Lib.hid (HB2.out.stay hb3)
    have HL3 := Lib.hid (HL2.out.trans (hb3.mono HL2.out.size))
    have HR3 := Lib.hid (HR2.out.stay hb3)
    have HD3 := Lib.hid (HD2.out.below hb3)
    clear HB2 HL2 HR2 HD2 hb3
    rw [HP.out]
    simp only [formV, Option.getD, Option.isSome]
    have hm1 := Hm1.out
    have hms := Hms.out
    have hml := Hml.out
    have hex := Hex.out
    have g0 := HB3.out.cell 0
    have g1 := HB3.out.cell 1
    go_wp2_with fail
    clear g0 g1 hm1 hms hml hex
    refine (cput_any k A n c codes e1 z w3 HR3.out HC1.out HZ.out HD3.out).mono ?_
    rintro x w4 ⟨rfl, hb4⟩
    have HB4 := Lib.hid (HB3.out.stay hb4)
    have HL4 := Lib.hid (HL3.out.trans (hb4.mono HL3.out.size))
    have HR4 := Lib.hid (HR3.out.stay hb4)
    have HD4 := Lib.hid (HD3.out.below hb4)
    clear HB3 HL3 HR3 HD3 hb4
    cases hp : puR e1 (cdOf k codes) z with
    | none =>
      clear hp
      simp only [formV, Option.getD, Option.isSome]
      go_wp2_with fail
      refine (awake7 _ HD4.out).mono ?_
      rintro x w5 ⟨rfl, hb5⟩
      go_wp2
      go_ret
      exact ⟨rfl, HL4.out.trans (hb5.mono HL4.out.size)⟩
    | some p =>
      obtain ⟨hst, hz0, hpl⟩ := puR_ok HC1.out hp s
      obtain ⟨zn, rfl⟩ := Int.eq_ofNat_of_zero_le hz0
      have HT := Lib.hid hst
      have HPL := Lib.hid hpl
      clear hst hz0 hpl hp
      simp only [formV, Option.getD, Option.isSome]
      have hsum : p.length + s.length ≤ 9223372036854775807 := by have := HS.out; have := HPL.out; omega
      have g0 := HB4.out.cell 0
      have g1 := HB4.out.cell 1
      go_wp2_with fail
      clear g0 g1 hsum
      try rw [ByteArray.mk_append_mk]
      refine (cstep_any k A n c codes e1 (p ++ s) w4 HR4.out HC1.out (by have := HS.out; have := HPL.out; simp; omega) HD4.out).mono ?_
      rintro x w5 ⟨rfl, hb5⟩
      have HB5 := Lib.hid (HB4.out.stay hb5)
      have HL5 := Lib.hid (HL4.out.trans (hb5.mono HL4.out.size))
      have HR5 := Lib.hid (HR4.out.stay hb5)
      have HD5 := Lib.hid (HD4.out.below hb5)
      clear HB4 HL4 HR4 HD4 hb5
      rw [HT.out]
      simp only [trip64, Int.toNat_natCast]
      go_wp2_with fail
      refine (awake7 _ HD5.out).mono ?_
      rintro x w6 ⟨rfl, hb6⟩
      go_wp2
      go_ret
      exact ⟨rfl, HL5.out.trans (hb6.mono HL5.out.size)⟩
  | false =>
    go_wp2_with fail
    clear g0 g1
    refine (cput_any k A n c codes e1 z w2 HR2.out HC1.out HZ.out HD2.out).mono ?_
    rintro x w4 ⟨rfl, hb4⟩
    have HB4 := Lib.hid (HB2.out.stay hb4)
    have HL4 := Lib.hid (HL2.out.trans (hb4.mono HL2.out.size))
    have HR4 := Lib.hid (HR2.out.stay hb4)
    have HD4 := Lib.hid (HD2.out.below hb4)
    clear HB2 HL2 HR2 HD2 hb4
    cases hp : puR e1 (cdOf k codes) z with
    | none =>
      clear hp
      simp only [formV, Option.getD, Option.isSome]
      go_wp2_with fail
      refine (awake7 _ HD4.out).mono ?_
      rintro x w5 ⟨rfl, hb5⟩
      go_wp2
      go_ret
      exact ⟨rfl, HL4.out.trans (hb5.mono HL4.out.size)⟩
    | some p =>
      obtain ⟨hst, hz0, hpl⟩ := puR_ok HC1.out hp s
      obtain ⟨zn, rfl⟩ := Int.eq_ofNat_of_zero_le hz0
      have HT := Lib.hid hst
      have HPL := Lib.hid hpl
      clear hst hz0 hpl hp
      simp only [formV, Option.getD, Option.isSome]
      have hsum : p.length + s.length ≤ 9223372036854775807 := by have := HS.out; have := HPL.out; omega
      have g0 := HB4.out.cell 0
      have g1 := HB4.out.cell 1
      go_wp2_with fail
      clear g0 g1 hsum
      try rw [ByteArray.mk_append_mk]
      refine (cstep_any k A n c codes e1 (p ++ s) w4 HR4.out HC1.out (by have := HS.out; have := HPL.out; simp; omega) HD4.out).mono ?_
      rintro x w5 ⟨rfl, hb5⟩
      have HB5 := Lib.hid (HB4.out.stay hb5)
      have HL5 := Lib.hid (HL4.out.trans (hb5.mono HL4.out.size))
      have HR5 := Lib.hid (HR4.out.stay hb5)
      have HD5 := Lib.hid (HD4.out.below hb5)
      clear HB4 HL4 HR4 HD4 hb5
      rw [HT.out]
      simp only [trip64, Int.toNat_natCast]
      go_wp2_with fail
      refine (awake7 _ HD5.out).mono ?_
      rintro x w6 ⟨rfl, hb6⟩
      go_wp2
      go_ret
      exact ⟨rfl, HL5.out.trans (hb6.mono HL5.out.size)⟩
end Go.Proofs.YtbcbmmgfdobdiaaDoor

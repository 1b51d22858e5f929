/- The walk of ConvertPieces. -/
import Derived.Test.YtbcbmmgfdobdiaaDoorKH
import Derived.Test.YtbcbmmgfdobdiaaDoorRK4
import Derived.Deep.DeepCutAuto
namespace Go.Proofs.YtbcbmmgfdobdiaaDoor
open Go.RowKit

/-- two encodings that came in, and the table of digits -/
def Cx (w : World) (A1 : Option Addr) (n1 : Nat) (q1 : List Int) (A2 : Option Addr) (n2 : Nat) (q2 : List Int) : Prop := Reads w w.heap.size 1 A1 n1 (q1.map iv) ∧ Reads w w.heap.size 1 A2 n2 (q2.map iv) ∧ Dig w
theorem Cx.stay {w w' : World} {A1 : Option Addr} {n1 : Nat} {q1 : List Int} {A2 : Option Addr} {n2 : Nat} {q2 : List Int} (h : Cx w A1 n1 q1 A2 n2 q2) (hb : Below w.heap.size w w') : Cx w' A1 n1 q1 A2 n2 q2 := ⟨h.1.stay hb, h.2.1.stay hb, h.2.2.below hb⟩
theorem ext_head (s : List UInt8) (k : Nat) : (⟨s.toArray⟩ : ByteArray).extract 0 k = ⟨(s.take k).toArray⟩ := by apply ByteArray.ext; simp
theorem convK_pieces {K L : Cd} {p : Int} {s : List UInt8} {a : Nat} (hp : p ≠ 1) (h : CutK K s a) : ∃ x y, convK K L p (s.take a) = .ok x ∧ convK K L p (s.drop a) = .ok y ∧ convK K L p s = .ok (x ++ y) := by
  have h1 := convK_cut K L p s a h
  refine ⟨encF L p (decF K p (s.take a)), encF L p (decF K p (s.drop a)), by rw [convK, if_neg hp], by rw [convK, if_neg hp], ?_⟩
  rw [h1]
  unfold convK
  rw [if_neg hp, if_neg hp]
  rfl

set_option maxRecDepth 100000 in
set_option maxHeartbeats 8000000 in
theorem wk_pieces (k1 : Int) (A1 : Option Addr) (n1 c1 : Nat) (q1 : List Int) (k2 : Int) (A2 : Option Addr) (n2 c2 : Nat) (q2 : List Int) (s : List UInt8) (p pieces : Int) (w : World) (hx : Cx w A1 n1 q1 A2 n2 q2) :
    Calls Tryd.prog 6 #[.agg #[.int .i64 k1, .slice A1 n1 c1, .int .i64 k2, .slice A2 n2 c2, .string ⟨s.toArray⟩, .int .i64 p], .int .i64 pieces] w fun e w' => e = .returned (.bool true) ∧ Below w.heap.size w w' := by
  have bn := below_new w (.cells #[.int .i64 k1, .slice A1 n1 c1, .int .i64 k2, .slice A2 n2 c2, .string ⟨s.toArray⟩, .int .i64 p] 54)
  have HB := Lib.hid (Blk.new w 54 #[.int .i64 k1, .slice A1 n1 c1, .int .i64 k2, .slice A2 n2 c2, .string ⟨s.toArray⟩, .int .i64 p])
  have HX := Lib.hid (hx.stay bn)
  have HL := Lib.hid bn
  clear bn hx
  obtain ⟨e1, hC1⟩ := CkE_some k1 q1
  have HC1 := Lib.hid hC1
  obtain ⟨e2, hC2⟩ := CkE_some k2 q2
  have HC2 := Lib.hid hC2
  clear hC1 hC2
  have g0 := HB.out.cell 0
  have g1 := HB.out.cell 1
  have g2 := HB.out.cell 2
  have g3 := HB.out.cell 3
  have g4 := HB.out.cell 4
  have g5 := HB.out.cell 5
  go_enter Tryd.func6, Tryd.ntmps6
  go_wp2_with fail
  clear g0 g1 g2 g3 g4 g5
  obtain ⟨W, hW⟩ : ∃ W, W = w.alloc (.cells #[.int .i64 k1, .slice A1 n1 c1, .int .i64 k2, .slice A2 n2 c2, .string ⟨s.toArray⟩, .int .i64 p] 54) := ⟨_, rfl⟩
  rw [← hW] at HB HX HL ⊢
  clear hW
  refine (few_any k1 A1 n1 c1 W).mono ?_
  rintro x w1 ⟨rfl, hb1⟩
  replace HB := Lib.hid (HB.out.stay hb1)
  replace HX := Lib.hid (HX.out.stay hb1)
  replace HL := Lib.hid (HL.out.trans (hb1.mono HL.out.size))
  clear hb1
  by_cases a1 : (n1 : Int) ≤ 300
  rotate_left
  · skip
    have g0 := HB.out.cell 0
    have g1 := HB.out.cell 1
    have g2 := HB.out.cell 2
    have g3 := HB.out.cell 3
    have g4 := HB.out.cell 4
    have g5 := HB.out.cell 5
    go_wp2_with fail
    clear g0 g1 g2 g3 g4 g5
    refine (awake7 _ HX.out.2.2).mono ?_
    rintro x w9 ⟨rfl, hb9⟩
    go_wp2
    go_ret
    exact ⟨rfl, HL.out.trans (hb9.mono HL.out.size)⟩
  have g0 := HB.out.cell 0
  have g1 := HB.out.cell 1
  have g2 := HB.out.cell 2
  have g3 := HB.out.cell 3
  have g4 := HB.out.cell 4
  have g5 := HB.out.cell 5
  go_wp2_with fail
  clear g0 g1 g2 g3 g4 g5
  refine (few_any k2 A2 n2 c2 w1).mono ?_
  rintro x w2 ⟨rfl, hb2⟩
  replace HB := Lib.hid (HB.out.stay hb2)
  replace HX := Lib.hid (HX.out.stay hb2)
  replace HL := Lib.hid (HL.out.trans (hb2.mono HL.out.size))
  clear hb2
  by_cases a2 : (n2 : Int) ≤ 300
  rotate_left
  · skip
    have g0 := HB.out.cell 0
    have g1 := HB.out.cell 1
    have g2 := HB.out.cell 2
    have g3 := HB.out.cell 3
    have g4 := HB.out.cell 4
    have g5 := HB.out.cell 5
    go_wp2_with fail
    clear g0 g1 g2 g3 g4 g5
    refine (awake7 _ HX.out.2.2).mono ?_
    rintro x w9 ⟨rfl, hb9⟩
    go_wp2
    go_ret
    exact ⟨rfl, HL.out.trans (hb9.mono HL.out.size)⟩
  by_cases b0 : (300 : Int) < s.length
  · skip
    have g0 := HB.out.cell 0
    have g1 := HB.out.cell 1
    have g2 := HB.out.cell 2
    have g3 := HB.out.cell 3
    have g4 := HB.out.cell 4
    have g5 := HB.out.cell 5
    go_wp2_with fail
    clear g0 g1 g2 g3 g4 g5
    refine (awake7 _ HX.out.2.2).mono ?_
    rintro x w9 ⟨rfl, hb9⟩
    go_wp2
    go_ret
    exact ⟨rfl, HL.out.trans (hb9.mono HL.out.size)⟩
  by_cases b1 : p < 2
  · skip
    have g0 := HB.out.cell 0
    have g1 := HB.out.cell 1
    have g2 := HB.out.cell 2
    have g3 := HB.out.cell 3
    have g4 := HB.out.cell 4
    have g5 := HB.out.cell 5
    go_wp2_with fail
    clear g0 g1 g2 g3 g4 g5
    refine (awake7 _ HX.out.2.2).mono ?_
    rintro x w9 ⟨rfl, hb9⟩
    go_wp2
    go_ret
    exact ⟨rfl, HL.out.trans (hb9.mono HL.out.size)⟩
  by_cases b2 : 4 < p
  · skip
    have g0 := HB.out.cell 0
    have g1 := HB.out.cell 1
    have g2 := HB.out.cell 2
    have g3 := HB.out.cell 3
    have g4 := HB.out.cell 4
    have g5 := HB.out.cell 5
    go_wp2_with fail
    clear g0 g1 g2 g3 g4 g5
    refine (awake7 _ HX.out.2.2).mono ?_
    rintro x w9 ⟨rfl, hb9⟩
    go_wp2
    go_ret
    exact ⟨rfl, HL.out.trans (hb9.mono HL.out.size)⟩
  by_cases b3 : pieces < 0
  · skip
    have g0 := HB.out.cell 0
    have g1 := HB.out.cell 1
    have g2 := HB.out.cell 2
    have g3 := HB.out.cell 3
    have g4 := HB.out.cell 4
    have g5 := HB.out.cell 5
    go_wp2_with fail
    clear g0 g1 g2 g3 g4 g5
    refine (awake7 _ HX.out.2.2).mono ?_
    rintro x w9 ⟨rfl, hb9⟩
    go_wp2
    go_ret
    exact ⟨rfl, HL.out.trans (hb9.mono HL.out.size)⟩
  have g0 := HB.out.cell 0
  have g1 := HB.out.cell 1
  have g2 := HB.out.cell 2
  have g3 := HB.out.cell 3
  have g4 := HB.out.cell 4
  have g5 := HB.out.cell 5
  go_wp2_with fail
  clear g0 g1 g2 g3 g4 g5
  refine (rcheck_any k1 A1 n1 c1 q1 e1 w2 HX.out.1 HC1.out).mono ?_
  rintro x w3 ⟨rfl, hb3⟩
  replace HB := Lib.hid (HB.out.stay hb3)
  replace HX := Lib.hid (HX.out.stay hb3)
  replace HL := Lib.hid (HL.out.trans (hb3.mono HL.out.size))
  clear hb3
  by_cases d1 : e1 = 0
  rotate_left
  · have d1n : (e1 != 0) = true := bne_iff_ne.2 d1
    clear d1
    have g0 := HB.out.cell 0
    have g1 := HB.out.cell 1
    have g2 := HB.out.cell 2
    have g3 := HB.out.cell 3
    have g4 := HB.out.cell 4
    have g5 := HB.out.cell 5
    go_wp2_with fail
    clear g0 g1 g2 g3 g4 g5
    refine (awake7 _ HX.out.2.2).mono ?_
    rintro x w9 ⟨rfl, hb9⟩
    go_wp2
    go_ret
    exact ⟨rfl, HL.out.trans (hb9.mono HL.out.size)⟩
  subst d1
  have g0 := HB.out.cell 0
  have g1 := HB.out.cell 1
  have g2 := HB.out.cell 2
  have g3 := HB.out.cell 3
  have g4 := HB.out.cell 4
  have g5 := HB.out.cell 5
  go_wp2_with fail
  clear g0 g1 g2 g3 g4 g5
  refine (rcheck_any k2 A2 n2 c2 q2 e2 w3 HX.out.2.1 HC2.out).mono ?_
  rintro x w4 ⟨rfl, hb4⟩
  replace HB := Lib.hid (HB.out.stay hb4)
  replace HX := Lib.hid (HX.out.stay hb4)
  replace HL := Lib.hid (HL.out.trans (hb4.mono HL.out.size))
  clear hb4
  by_cases d2 : e2 = 0
  rotate_left
  · have d2n : (e2 != 0) = true := bne_iff_ne.2 d2
    clear d2
    have g0 := HB.out.cell 0
    have g1 := HB.out.cell 1
    have g2 := HB.out.cell 2
    have g3 := HB.out.cell 3
    have g4 := HB.out.cell 4
    have g5 := HB.out.cell 5
    go_wp2_with fail
    clear g0 g1 g2 g3 g4 g5
    refine (awake7 _ HX.out.2.2).mono ?_
    rintro x w9 ⟨rfl, hb9⟩
    go_wp2
    go_ret
    exact ⟨rfl, HL.out.trans (hb9.mono HL.out.size)⟩
  subst d2
  have hsl : s.length ≤ 300 := by omega
  have hp1 : p ≠ 1 := by omega
  have hp2 : 2 ≤ p := by omega
  have hp4 : p ≤ 4 := by omega
  have HP := Lib.hid (And.intro hp1 (And.intro hp2 hp4))
  clear hp1 hp2 hp4
  have g0 := HB.out.cell 0
  have g1 := HB.out.cell 1
  have g2 := HB.out.cell 2
  have g3 := HB.out.cell 3
  have g4 := HB.out.cell 4
  have g5 := HB.out.cell 5
  go_wp2_with fail
  clear g0 g1 g2 g3 g4 g5
  go_loopw [5, 6] (fun a k wr => ∃ (i : Nat) (j : Nat), i ≤ s.length ∧ a = .int .i64 (i : Int) ∧ k = .int .i64 (j : Int) ∧ j ≤ i ∧ Hid (CutK (cdOf k1 q1) s i) ∧ Hid (Below w4.heap.size w4 wr)) (fun a _ _ => s.length - (intOf a).toNat)
  case atStart => exact ⟨0, 0, by omega, rfl, rfl, by omega, Lib.hid .zero, Lib.hid (Below.refl _ _)⟩
  case round =>
    obtain ⟨i, j, hi, rfl, rfl, hji, HK, Hb⟩ := hrel
    replace HB := Lib.hid (HB.out.stay Hb.out)
    replace HX := Lib.hid (HX.out.stay Hb.out)
    replace HL := Lib.hid (HL.out.trans (Hb.out.mono HL.out.size))
    by_cases hgo : (j : Int) < pieces ∧ i < s.length
    · obtain ⟨hg1, hg2⟩ := hgo
      have hg3 : (i : Int) < (s.length : Int) := by omega
      have hg4 : (i : Int) ≤ (s.length : Int) := by omega
      have hext := ext_drop s i
      have hne : s.drop i ≠ [] := by intro e; have := congrArg List.length e; simp at this; omega
      have hbd := stepK_bd (cdOf k1 q1) (s.drop i) hne
      obtain ⟨⟨z, m, b⟩, hr⟩ : ∃ r, stepK (cdOf k1 q1) (s.drop i) = r := ⟨_, rfl⟩
      have HN := Lib.hid (show CutK (cdOf k1 q1) s (i + m) by have := HK.out.step hg2; rw [hr] at this; exact this)
      rw [hr] at hbd
      have hm1 : 1 ≤ m := hbd.1
      have hm2 : m + i ≤ s.length := by have := hbd.2.2; rw [List.length_drop] at this; simp at this; omega
      have HTl := Lib.hid (show (s.drop i).length ≤ 1000000 by rw [List.length_drop]; omega)
      have Hst := Lib.hid (show stR 0 (cdOf k1 q1) (s.drop i) = (z, m, b) by unfold stR; rw [if_pos rfl]; exact hr)
      clear hbd hr hne
      obtain ⟨T, hT⟩ : ∃ T, T = s.drop i := ⟨_, rfl⟩
      rw [← hT] at hext HTl Hst
      clear hT
      have CR := Lib.hid (show ∀ u, Below wr.heap.size wr u → Calls Tryd.prog 26 #[.agg #[.int .i64 k1, .slice A1 n1 c1], .string ⟨T.toArray⟩] u fun e v => e = .returned (.tuple #[.int .i64 (z : Int), .int .i64 (m : Int), .bool b]) ∧ Below wr.heap.size wr v from fun u hu =>
        (rstep_any k1 A1 n1 c1 q1 0 T u (HX.out.1.stay hu) HC1.out HTl.out).mono fun e v ⟨h1, h2⟩ => ⟨by rw [h1, Hst.out]; rfl, hu.trans (h2.mono hu.size)⟩)
      have hK : ∀ u, Below wr.heap.size wr u → u.cell? ⟨w.heap.size, 0, none⟩ = some (.int .i64 k1) ∧ u.cell? ⟨w.heap.size, 1, none⟩ = some (.slice A1 n1 c1) ∧ u.cell? ⟨w.heap.size, 4, none⟩ = some (.string ⟨s.toArray⟩) := fun u hu =>
        ⟨(HB.out.stay hu).cell 0, (HB.out.stay hu).cell 1, (HB.out.stay hu).cell 4⟩
      have K := Lib.hid hK
      clear hK
      have hbS : Below wr.heap.size wr wr.drew := (Below.refl _ _).drew
      have g4 := HB.out.cell 4
      go_wp2_with fail
      clear g4
      go_region_held3 (fun u => Below wr.heap.size wr u ∧ u.cell? ⟨w.heap.size, 0, none⟩ = some (.int .i64 k1) ∧ u.cell? ⟨w.heap.size, 1, none⟩ = some (.slice A1 n1 c1) ∧ u.cell? ⟨w.heap.size, 4, none⟩ = some (.string ⟨s.toArray⟩)) (first | exact ⟨hbS, K.out _ hbS⟩ | exact ⟨(Below.refl _ _).drew, K.out _ (Below.refl _ _).drew⟩) (first | (go_at_call 26; (with_reducible refine (CR.out _ hbS).mono ?_); rintro e w5 ⟨rfl, hb5⟩; clear hbS; have hbS := hb5; clear hb5))
      have HR := Lib.hid (Hb.out.trans (hbS.mono Hb.out.size))
      clear hbS
      go_wp2
      go_roundw
      case rel => exact ⟨i + m, j + 1, by omega, by go_num, by go_num, by omega, HN, HR⟩
      case measure => simp [intOf]; omega
    · have hex : ¬ (j : Int) < pieces ∨ ((j : Int) < pieces ∧ ¬ (i : Int) < (s.length : Int)) := by omega
      have hi2 : (i : Int) ≤ (s.length : Int) := by omega
      have hx1 := ext_head s i
      have hx2 := ext_drop s i
      obtain ⟨x, y, hx, hy, hxy⟩ := convK_pieces (L := cdOf k2 q2) HP.out.1 HK.out
      have Hx := Lib.hid hx
      have Hy := Lib.hid hy
      have Hxy := Lib.hid hxy
      have Hl1 := Lib.hid (show (s.take i).length ≤ 100000 by rw [List.length_take]; omega)
      have Hl2 := Lib.hid (show (s.drop i).length ≤ 100000 by rw [List.length_drop]; omega)
      have hxl : x.length ≤ 96000 := by have := convK_len hx; rw [List.length_take] at this; omega
      have hyl : y.length ≤ 96000 := by have := convK_len hy; rw [List.length_drop] at this; omega
      clear hx hy hxy hgo
      obtain ⟨T1, hT1⟩ : ∃ T, T = s.take i := ⟨_, rfl⟩
      obtain ⟨T2, hT2⟩ : ∃ T, T = s.drop i := ⟨_, rfl⟩
      rw [← hT1] at hx1 Hx Hl1
      rw [← hT2] at hx2 Hy Hl2
      clear hT1 hT2
      have CR := Lib.hid (show ∀ (T o : List UInt8), T.length ≤ 100000 → convK (cdOf k1 q1) (cdOf k2 q2) p T = .ok o → ∀ u, Below wr.heap.size wr u → Calls Tryd.prog 24 #[.agg #[.int .i64 k1, .slice A1 n1 c1], .agg #[.int .i64 k2, .slice A2 n2 c2], .string ⟨T.toArray⟩, .int .i64 p] u fun e v => e = .returned (.tuple #[.string ⟨o.toArray⟩, .agg #[.int .i64 0, .int .i64 0]]) ∧ Below u.heap.size u v from fun T o hT ho u hu =>
        (convK_any k1 A1 n1 c1 q1 k2 A2 n2 c2 q2 T p u (HX.out.1.stay hu) (HX.out.2.1.stay hu) HC1.out HC2.out (by have := HP.out.2.1; omega) HP.out.2.2 hT (HX.out.2.2.below hu)).mono fun e v ⟨h1, h2⟩ => ⟨by rw [h1, ho]; rfl, h2⟩)
      have C1 := Lib.hid (CR.out T1 x Hl1.out Hx.out)
      have C2 := Lib.hid (CR.out T2 y Hl2.out Hy.out)
      have C3 := Lib.hid (CR.out s (x ++ y) (by omega) Hxy.out)
      have hK : ∀ u, Below wr.heap.size wr u → u.cell? ⟨w.heap.size, 0, none⟩ = some (.int .i64 k1) ∧ u.cell? ⟨w.heap.size, 1, none⟩ = some (.slice A1 n1 c1) ∧ u.cell? ⟨w.heap.size, 2, none⟩ = some (.int .i64 k2) ∧ u.cell? ⟨w.heap.size, 3, none⟩ = some (.slice A2 n2 c2) ∧ u.cell? ⟨w.heap.size, 4, none⟩ = some (.string ⟨s.toArray⟩) ∧ u.cell? ⟨w.heap.size, 5, none⟩ = some (.int .i64 p) := fun u hu =>
        ⟨(HB.out.stay hu).cell 0, (HB.out.stay hu).cell 1, (HB.out.stay hu).cell 2, (HB.out.stay hu).cell 3, (HB.out.stay hu).cell 4, (HB.out.stay hu).cell 5⟩
      have K := Lib.hid hK
      have g4 := HB.out.cell 4
      clear hK CR Hx Hy Hxy
      rcases hex with he | ⟨he, he'⟩
      all_goals
        go_upto_region 9 with fail
        clear g4
        have hN0 : Hid (wr.heap.size ≤ wr.heap.size) := Lib.hid (Below.refl wr.heap.size wr).size
        have HbD := Lib.hid ((Below.refl wr.heap.size wr).drew)
        have HbA := Lib.hid (((Below.refl wr.heap.size wr).alloc (Below.refl wr.heap.size wr).size (.cells #[.int .i64 0, .int .i64 0] 37)).drew)
        go_cut [10, 11] (fun s10 s11 wx => s10 = .string ⟨x.toArray⟩ ∧ ∃ N : Nat, s11 = .pointer (some ⟨N, 0, none⟩) ∧ Hid (Blk wx N 37 #[.int .i64 0, .int .i64 0]) ∧ Hid (Below wr.heap.size wr wx) ∧ Hid (Below wr.heap.size wr wx))
        case first =>
          go_region_held3 (fun u => Below wr.heap.size wr u ∧ u.cell? ⟨w.heap.size, 0, none⟩ = some (.int .i64 k1) ∧ u.cell? ⟨w.heap.size, 1, none⟩ = some (.slice A1 n1 c1) ∧ u.cell? ⟨w.heap.size, 2, none⟩ = some (.int .i64 k2) ∧ u.cell? ⟨w.heap.size, 3, none⟩ = some (.slice A2 n2 c2) ∧ u.cell? ⟨w.heap.size, 4, none⟩ = some (.string ⟨s.toArray⟩) ∧ u.cell? ⟨w.heap.size, 5, none⟩ = some (.int .i64 p)) (first | exact ⟨HbD.out, K.out _ HbD.out⟩ | exact ⟨HbA.out, K.out _ HbA.out⟩ | exact ⟨hbS, K.out _ hbS⟩ | exact ⟨hbS.alloc hbS.size _, K.out _ (hbS.alloc hbS.size _)⟩ | exact ⟨(hbS.setCell (p := ⟨wr.heap.size, 0, none⟩) hN0.out _).setCell (p := ⟨wr.heap.size, 1, none⟩) hN0.out _, K.out _ ((hbS.setCell (p := ⟨wr.heap.size, 0, none⟩) hN0.out _).setCell (p := ⟨wr.heap.size, 1, none⟩) hN0.out _)⟩) (first | (go_at_call 24; (first | ((with_reducible refine (C1.out _ HbD.out).mono ?_); rintro e w5 ⟨rfl, hb5⟩; have hbS := HbD.out.trans (hb5.mono HbD.out.size); have hbT := (Below.refl wr.heap.size wr).drew.trans hb5; clear hb5) | ((with_reducible refine (C1.out _ HbA.out).mono ?_); rintro e w5 ⟨rfl, hb5⟩; have hF5 : Blk w5 wr.heap.size 37 #[.int .i64 0, .int .i64 0] := (Blk.new wr 37 #[.int .i64 0, .int .i64 0]).drew.stay hb5; have z0 := hF5.cell 0; have z1 := hF5.cell 1; have f0 := hF5.frozen 0; have f1 := hF5.frozen 1; have hbS := HbA.out.trans (hb5.mono HbA.out.size); have hbT := (below_new wr (.cells #[.int .i64 0, .int .i64 0] 37)).drew.trans (hb5.mono (below_new wr (.cells #[.int .i64 0, .int .i64 0] 37)).size); clear hb5))))
          · go_wp2_with fail
            go_meet
            exact ⟨rfl, w5.heap.size, rfl, Lib.hid (Blk.new _ _ _), Lib.hid (hbT.alloc hbT.size _), Lib.hid (hbS.alloc hbS.size _)⟩
          · go_wp2_with fail
            go_meet
            exact ⟨rfl, wr.heap.size, rfl, Lib.hid ((hF5.set_ 0 _).set_ 1 _), Lib.hid ((hbT.setCell (p := ⟨wr.heap.size, 0, none⟩) (Nat.le_refl _) _).setCell (p := ⟨wr.heap.size, 1, none⟩) (Nat.le_refl _) _), Lib.hid ((hbS.setCell (p := ⟨wr.heap.size, 0, none⟩) hN0.out _).setCell (p := ⟨wr.heap.size, 1, none⟩) hN0.out _)⟩
        case rest =>
          obtain ⟨rfl, N1, rfl, HF1, _, HB1⟩ := hcut
          clear HbD HbA hN0
          go_upto_region 10 with fail
          have hN0 : Hid (wr.heap.size ≤ wc.heap.size) := Lib.hid (HB1.out).size
          have HbD := Lib.hid ((HB1.out).drew)
          have HbA := Lib.hid (((HB1.out).alloc (HB1.out).size (.cells #[.int .i64 0, .int .i64 0] 37)).drew)
          go_cut [12, 13] (fun s10 s11 wx => s10 = .string ⟨y.toArray⟩ ∧ ∃ N : Nat, s11 = .pointer (some ⟨N, 0, none⟩) ∧ Hid (Blk wx N 37 #[.int .i64 0, .int .i64 0]) ∧ Hid (Below wc.heap.size wc wx) ∧ Hid (Below wr.heap.size wr wx))
          case first =>
            go_region_held3 (fun u => Below wr.heap.size wr u ∧ u.cell? ⟨w.heap.size, 0, none⟩ = some (.int .i64 k1) ∧ u.cell? ⟨w.heap.size, 1, none⟩ = some (.slice A1 n1 c1) ∧ u.cell? ⟨w.heap.size, 2, none⟩ = some (.int .i64 k2) ∧ u.cell? ⟨w.heap.size, 3, none⟩ = some (.slice A2 n2 c2) ∧ u.cell? ⟨w.heap.size, 4, none⟩ = some (.string ⟨s.toArray⟩) ∧ u.cell? ⟨w.heap.size, 5, none⟩ = some (.int .i64 p)) (first | exact ⟨HbD.out, K.out _ HbD.out⟩ | exact ⟨HbA.out, K.out _ HbA.out⟩ | exact ⟨hbS, K.out _ hbS⟩ | exact ⟨hbS.alloc hbS.size _, K.out _ (hbS.alloc hbS.size _)⟩ | exact ⟨(hbS.setCell (p := ⟨wc.heap.size, 0, none⟩) hN0.out _).setCell (p := ⟨wc.heap.size, 1, none⟩) hN0.out _, K.out _ ((hbS.setCell (p := ⟨wc.heap.size, 0, none⟩) hN0.out _).setCell (p := ⟨wc.heap.size, 1, none⟩) hN0.out _)⟩) (first | (go_at_call 24; (first | ((with_reducible refine (C2.out _ HbD.out).mono ?_); rintro e w5 ⟨rfl, hb5⟩; have hbS := HbD.out.trans (hb5.mono HbD.out.size); have hbT := (Below.refl wc.heap.size wc).drew.trans hb5; clear hb5) | ((with_reducible refine (C2.out _ HbA.out).mono ?_); rintro e w5 ⟨rfl, hb5⟩; have hF5 : Blk w5 wc.heap.size 37 #[.int .i64 0, .int .i64 0] := (Blk.new wc 37 #[.int .i64 0, .int .i64 0]).drew.stay hb5; have z0 := hF5.cell 0; have z1 := hF5.cell 1; have f0 := hF5.frozen 0; have f1 := hF5.frozen 1; have hbS := HbA.out.trans (hb5.mono HbA.out.size); have hbT := (below_new wc (.cells #[.int .i64 0, .int .i64 0] 37)).drew.trans (hb5.mono (below_new wc (.cells #[.int .i64 0, .int .i64 0] 37)).size); clear hb5))))
            · go_wp2_with fail
              go_meet
              exact ⟨rfl, w5.heap.size, rfl, Lib.hid (Blk.new _ _ _), Lib.hid (hbT.alloc hbT.size _), Lib.hid (hbS.alloc hbS.size _)⟩
            · go_wp2_with fail
              go_meet
              exact ⟨rfl, wc.heap.size, rfl, Lib.hid ((hF5.set_ 0 _).set_ 1 _), Lib.hid ((hbT.setCell (p := ⟨wc.heap.size, 0, none⟩) (Nat.le_refl _) _).setCell (p := ⟨wc.heap.size, 1, none⟩) (Nat.le_refl _) _), Lib.hid ((hbS.setCell (p := ⟨wc.heap.size, 0, none⟩) hN0.out _).setCell (p := ⟨wc.heap.size, 1, none⟩) hN0.out _)⟩
          case rest =>
            obtain ⟨rfl, N2, rfl, HF2, HT2, HB2⟩ := hcut
            replace HF1 := Lib.hid (HF1.out.stay HT2.out)
            clear HbD HbA hN0 HB1 HT2
            obtain ⟨m0, m1, m2, m3, m4, m5⟩ := K.out _ HB2.out
            go_wp2_with fail
            refine (C3.out _ HB2.out).mono ?_
            rintro e w6 ⟨rfl, hb6⟩
            have bn6 := below_new w6 (.cells #[.int .i64 0, .int .i64 0] 37)
            have v0 := ((HF1.out.stay hb6).stay bn6).cell 0
            have v1 := ((HF2.out.stay hb6).stay bn6).cell 0
            have v2 := (Blk.new w6 37 #[.int .i64 0, .int .i64 0]).cell 0
            have hb7 := (HB2.out.trans (hb6.mono HB2.out.size))
            have HL7 := Lib.hid ((HL.out.trans (hb7.mono HL.out.size)).alloc (Nat.le_trans HL.out.size hb7.size) (.cells #[.int .i64 0, .int .i64 0] 37))
            have HX7 := Lib.hid ((HX.out.stay hb7).stay bn6)
            have hcat : (⟨x.toArray⟩ : ByteArray) ++ ⟨y.toArray⟩ = ⟨(x ++ y).toArray⟩ := ByteArray.mk_append_mk x y
            clear m0 m1 m2 m3 m4 m5 bn6 hb6 hb7
            go_wp2_with fail
            refine (awake7 _ HX7.out.2.2).mono ?_
            rintro e w8 ⟨rfl, hb8⟩
            go_wp2
            go_ret
            exact ⟨rfl, HL7.out.trans (hb8.mono HL7.out.size)⟩
end Go.Proofs.YtbcbmmgfdobdiaaDoor

/- The walk of ConvstreamBegins. -/
import Derived.Test.YtbcbmmgfdobdiaaDoorKTB
namespace Go.Proofs.YtbcbmmgfdobdiaaDoor
open Go.RowKit

set_option maxRecDepth 100000 in
set_option maxHeartbeats 8000000 in
theorem wk_begins (k1 : Int) (A1 : Option Addr) (n1 c1 : Nat) (q1 : List Int) (k2 : Int) (A2 : Option Addr) (n2 c2 : Nat) (q2 : List Int) (p : Int) (Al : Option Addr) (nl cl : Nat) (l : List (List UInt8)) (w : World) (h1 : Reads w w.heap.size 1 A1 n1 (q1.map iv)) (h2 : Reads w w.heap.size 1 A2 n2 (q2.map iv)) (hr : Reads w w.heap.size 1 Al nl (l.map sv)) (hl : ∀ s ∈ l, s.length ≤ 140737488355328) (hd : Dig w) :
    Calls Tryd.prog 13 #[.agg #[.int .i64 k1, .slice A1 n1 c1, .int .i64 k2, .slice A2 n2 c2, .int .i64 p], .slice Al nl cl] w fun e w' => e = .returned (.bool true) ∧ Below w.heap.size w w' := by
  have bn := below_new w (.cells #[.int .i64 k1, .slice A1 n1 c1, .int .i64 k2, .slice A2 n2 c2, .int .i64 1] 28)
  have HB := Lib.hid (Blk.new w 28 #[.int .i64 k1, .slice A1 n1 c1, .int .i64 k2, .slice A2 n2 c2, .int .i64 1])
  have H1 := Lib.hid ((h1.below bn).more bn.size)
  have H2 := Lib.hid ((h2.below bn).more bn.size)
  have HR := Lib.hid ((hr.below bn).more bn.size)
  have HD := Lib.hid (hd.below bn)
  have HL := Lib.hid bn
  have Hl := Lib.hid hl
  have Hnl := Lib.hid (show l.length = nl by have := hr.1; simpa using this)
  have hdl := hd.lt
  clear bn h1 h2 hr hd hl
  have g0 := HB.out.cell 0
  have g1 := HB.out.cell 1
  have g2 := HB.out.cell 2
  have g3 := HB.out.cell 3
  have g4 := HB.out.cell 4
  go_enter Tryd.func13, Tryd.ntmps13
  go_wp2_with fail
  clear g0 g1 g2 g3 g4
  obtain ⟨W, hW⟩ : ∃ W, W = (w.alloc (.cells #[.int .i64 k1, .slice A1 n1 c1, .int .i64 k2, .slice A2 n2 c2, .int .i64 1] 28)) := ⟨_, rfl⟩
  have hWs : W.heap.size = w.heap.size + 1 := by rw [hW]; simp
  rw [← hW] at HB H1 H2 HR HD HL ⊢
  clear hW
  have BB := Lib.hid (Below.refl W.heap.size W)
  refine (few8_any k1 A1 n1 c1 k2 A2 n2 c2 1 Al nl cl l W (HR.out.up (Nat.le_refl _)) Hl.out).mono ?_
  rintro x w1 ⟨rfl, hb1⟩
  replace BB := Lib.hid (BB.out.trans (hb1.mono BB.out.size))
  clear hb1
  cases hfew : few8 l n1 n2 with
  | false =>
    clear hfew
    have HBc := Lib.hid (HB.out.stay BB.out)
    have g0 := HBc.out.cell 0
    have g1 := HBc.out.cell 1
    have g2 := HBc.out.cell 2
    have g3 := HBc.out.cell 3
    have g4 := HBc.out.cell 4
    go_wp2_with fail
    refine (alive_any _ (HD.out.below BB.out)).mono ?_
    rintro x w9 ⟨rfl, hb9⟩
    go_wp2
    go_ret
    exact ⟨rfl, HL.out.trans ((BB.out.trans (hb9.mono BB.out.size)).mono HL.out.size)⟩
  | true =>
    obtain ⟨hf1, hf2, hf3, hf4⟩ := few8_true hfew
    rw [Hnl.out] at hf1
    clear hfew
    have HBc := Lib.hid (HB.out.stay BB.out)
    have g0 := HBc.out.cell 0
    have g1 := HBc.out.cell 1
    have g2 := HBc.out.cell 2
    have g3 := HBc.out.cell 3
    have g4 := HBc.out.cell 4
    go_wp2_with fail
    clear g0 g1 g2 g3 g4
    clear HBc
    have X1 := Lib.hid ((H1.out.below BB.out).up BB.out.size)
    have X2 := Lib.hid ((H2.out.below BB.out).up BB.out.size)
    obtain ⟨e1, hC1⟩ := CkE_some k1 q1
    obtain ⟨e2, hC2⟩ := CkE_some k2 q2
    by_cases hgood : e1 = 0 ∧ e2 = 0 ∧ (1 : Int) ≤ 1 ∧ (1 : Int) ≤ 4
    rotate_left
    · refine (start_bad k1 A1 n1 c1 q1 k2 A2 n2 c2 q2 1 e1 e2 w1 X1.out X2.out hC1 hC2 hgood).mono ?_
      rintro x w2 ⟨rfl, hb2⟩
      replace BB := Lib.hid (BB.out.trans (hb2.mono BB.out.size))
      clear hb2
      clear hC1 hC2 hgood X1 X2
      go_wp2_with fail
      refine (alive_any _ (HD.out.below BB.out)).mono ?_
      rintro x w9 ⟨rfl, hb9⟩
      go_wp2
      go_ret
      exact ⟨rfl, HL.out.trans ((BB.out.trans (hb9.mono BB.out.size)).mono HL.out.size)⟩
    obtain ⟨rfl, rfl, hp1, hp4⟩ := hgood
    refine (start_good k1 A1 n1 c1 q1 k2 A2 n2 c2 q2 1 w1 X1.out X2.out hC1 hC2 hp1 hp4 (HD.out.below BB.out)).mono ?_
    rintro x w2 ⟨g, b0, rfl, ⟨hb0, hS⟩, hb2⟩
    have HC1 := Lib.hid hC1
    have HC2 := Lib.hid hC2
    have HS := Lib.hid hS
    have hgW : W.heap.size ≤ g := by have := hS.ge; have := BB.out.size; omega
    replace BB := Lib.hid (BB.out.trans (hb2.mono BB.out.size))
    clear hb2
    clear hS hC1 hC2 X1 X2
    have HRr := Lib.hid (show ∀ u, w2.grownBy u (some g) → Reads u u.heap.size 1 Al nl (l.map sv) from fun u hu => ((HR.out.below BB.out).grown hu BB.out.size (fun g' e => by injection e with e; omega)).up (Nat.le_trans BB.out.size hu.size))
    go_wp2_with fail
    refine (run_any g b0 (cdOf k1 q1) (cdOf k2 q2) 1 Al nl cl l w2 HS.out HRr.out hf2 (by omega)).mono ?_
    rintro x w3 ⟨a, fe, fv, rfl, hg3, hC3, hR3, hal⟩
    have HR3 := Lib.hid hR3
    have HC3 := Lib.hid hC3
    have hb3 : Below W.heap.size w2 w3 := below_of_grown hg3 hgW BB.out.size
    replace BB := Lib.hid (BB.out.trans hb3)
    clear hb3 hg3 hR3 hC3 HRr HS
    obtain ⟨y, hy⟩ : ∃ y, convK (cdOf k1 q1) (cdOf k2 q2) 3 l.flatten = .ok (a ++ y) ∧ (fe = 0 → y = []) := by
      rcases HR3.out with ⟨h1, h2, h3⟩ | ⟨h1, h2, _, d, h4, h5⟩
      · exact ⟨[], by rw [List.append_nil]; exact convK_skip 3 h3, fun _ => rfl⟩
      · have h6 := convK_cut (cdOf k1 q1) (cdOf k2 q2) 3 l.flatten d h4
        rw [convK_skip 3 h5] at h6
        have h7 : convK (cdOf k1 q1) (cdOf k2 q2) 3 (l.flatten.drop d) = .ok (encF (cdOf k2 q2) 3 (decF (cdOf k1 q1) 3 (l.flatten.drop d))) := by rw [convK, if_neg (by decide)]
        rw [h7] at h6
        exact ⟨_, h6, fun h => absurd h h1⟩
    obtain ⟨hcv, hy0⟩ := hy
    obtain ⟨B, hB⟩ : ∃ B, B = a ++ y := ⟨_, rfl⟩
    rw [← hB] at hcv
    have hBl : B.length = a.length + y.length := by rw [hB, List.length_append]
    have hle : a.length ≤ B.length := by omega
    have hlei : (a.length : Int) ≤ (B.length : Int) := by omega
    have hbl2 := convK_len hcv
    have hmin : min (a.length : Int) (B.length : Int) = (a.length : Int) := by omega
    have hext : (⟨B.toArray⟩ : ByteArray).extract 0 a.length = ⟨a.toArray⟩ := by rw [ext_head', hB, List.take_left]
    have HY0 := Lib.hid (show fe = 0 → a.length = B.length from fun h => by rw [hBl, hy0 h]; simp)
    clear hB hy0 hBl
    have bn4 := below_new w3 (.cells #[.int .i64 fe, .int .i64 fv] 37)
    have HN1 := Lib.hid (Blk.new w3 37 #[.int .i64 fe, .int .i64 fv])
    obtain ⟨X, hX⟩ : ∃ X, X = l.flatten := ⟨_, rfl⟩
    rw [← hX] at hcv hf2 hbl2
    have hjl : l.flatten.length ≤ 10000 := by rw [← hX]; omega
    have HX := Lib.hid hX.symm
    clear hX
    replace BB := Lib.hid (BB.out.trans (bn4.mono BB.out.size))
    clear bn4
    have CC := Lib.hid (show ∀ u, Below W.heap.size W u → Calls Tryd.prog 24 #[.agg #[.int .i64 k1, .slice A1 n1 c1], .agg #[.int .i64 k2, .slice A2 n2 c2], .string ⟨X.toArray⟩, .int .i64 3] u fun e v => e = .returned (.tuple #[.string ⟨B.toArray⟩, .agg #[.int .i64 0, .int .i64 0]]) ∧ Below u.heap.size u v from fun u hu =>
      (convK_any k1 A1 n1 c1 q1 k2 A2 n2 c2 q2 X 3 u ((H1.out.below hu).up hu.size) ((H2.out.below hu).up hu.size) HC1.out HC2.out (by omega) (by omega) (by omega) (HD.out.below hu)).mono fun e v ⟨h1, h2⟩ => ⟨by rw [h1, hcv]; rfl, h2⟩)
    have CJ := Lib.hid (show ∀ u, Below W.heap.size W u → Calls Tryd.prog 37 #[.slice Al nl cl] u fun e v => e = .returned (.string ⟨X.toArray⟩) ∧ v = u from fun u hu => by
      have h := join_any Al nl cl l u ((HR.out.below hu).up hu.size) hjl (by omega)
      rw [HX.out] at h; exact h)
    clear hcv
    have hBl3 : B.length ≤ 19200 := by omega
    clear hbl2
    go_wp2_with fail
    obtain ⟨W4, hW4⟩ : ∃ W, W = w3.alloc (.cells #[.int .i64 fe, .int .i64 fv] 37) := ⟨_, rfl⟩
    rw [← hW4] at HN1 BB ⊢
    clear hW4
    have K := Lib.hid (show ∀ u, Below W.heap.size W u → u.cell? ⟨w.heap.size, 0, none⟩ = some (.int .i64 k1) ∧ u.cell? ⟨w.heap.size, 1, none⟩ = some (.slice A1 n1 c1) ∧ u.cell? ⟨w.heap.size, 2, none⟩ = some (.int .i64 k2) ∧ u.cell? ⟨w.heap.size, 3, none⟩ = some (.slice A2 n2 c2) ∧ u.cell? ⟨w.heap.size, 4, none⟩ = some (.int .i64 1) from fun u hu => ⟨(HB.out.stay hu).cell 0, (HB.out.stay hu).cell 1, (HB.out.stay hu).cell 2, (HB.out.stay hu).cell 3, (HB.out.stay hu).cell 4⟩)
    have hN0 : Hid (W.heap.size ≤ W4.heap.size) := Lib.hid BB.out.size
    have HbD := Lib.hid BB.out.drew
    have HbA := Lib.hid ((BB.out.alloc BB.out.size (.cells #[.int .i64 0, .int .i64 0] 37)).drew)
    go_cut [9, 10] (fun s10 s11 wx => s10 = .string ⟨B.toArray⟩ ∧ ∃ N : Nat, s11 = .pointer (some ⟨N, 0, none⟩) ∧ Hid (Blk wx N 37 #[.int .i64 0, .int .i64 0]) ∧ Hid (Below W4.heap.size W4 wx) ∧ Hid (Below W.heap.size W wx))
    case first =>
      go_region_held3 (fun u => u.cell? ⟨w.heap.size, 0, none⟩ = some (.int .i64 k1) ∧ u.cell? ⟨w.heap.size, 1, none⟩ = some (.slice A1 n1 c1) ∧ u.cell? ⟨w.heap.size, 2, none⟩ = some (.int .i64 k2) ∧ u.cell? ⟨w.heap.size, 3, none⟩ = some (.slice A2 n2 c2) ∧ u.cell? ⟨w.heap.size, 4, none⟩ = some (.int .i64 1)) (first | exact K.out _ HbD.out | exact K.out _ HbA.out | exact K.out _ hbS | exact K.out _ (hbS.alloc hbS.size _) | exact K.out _ ((hbS.setCell (p := ⟨W4.heap.size, 0, none⟩) hN0.out _).setCell (p := ⟨W4.heap.size, 1, none⟩) hN0.out _)) (first | (go_at_call 37; (first | ((with_reducible refine (CJ.out _ HbD.out).mono ?_); rintro e w5 ⟨rfl, rfl⟩) | ((with_reducible refine (CJ.out _ HbA.out).mono ?_); rintro e w5 ⟨rfl, rfl⟩))) | (go_at_call 24; (first | ((with_reducible refine (CC.out _ HbD.out).mono ?_); rintro e w5 ⟨rfl, hb5⟩; have hbS := HbD.out.trans (hb5.mono HbD.out.size); have hbT := (Below.refl W4.heap.size W4).drew.trans hb5; clear hb5) | ((with_reducible refine (CC.out _ HbA.out).mono ?_); rintro e w5 ⟨rfl, hb5⟩; have hF5 : Blk w5 W4.heap.size 37 #[.int .i64 0, .int .i64 0] := (Blk.new W4 37 #[.int .i64 0, .int .i64 0]).drew.stay hb5; have z0 := hF5.cell 0; have z1 := hF5.cell 1; have f0 := hF5.frozen 0; have f1 := hF5.frozen 1; have hbS := HbA.out.trans (hb5.mono HbA.out.size); have hbT := (below_new W4 (.cells #[.int .i64 0, .int .i64 0] 37)).drew.trans (hb5.mono (below_new W4 (.cells #[.int .i64 0, .int .i64 0] 37)).size); clear hb5))))
      · go_wp2_with fail
        go_meet
        exact ⟨rfl, w5.heap.size, rfl, Lib.hid (Blk.new _ _ _), Lib.hid (hbT.alloc hbT.size _), Lib.hid (hbS.alloc hbS.size _)⟩
      · go_wp2_with fail
        go_meet
        exact ⟨rfl, W4.heap.size, rfl, Lib.hid ((hF5.set_ 0 _).set_ 1 _), Lib.hid ((hbT.setCell (p := ⟨W4.heap.size, 0, none⟩) (Nat.le_refl _) _).setCell (p := ⟨W4.heap.size, 1, none⟩) (Nat.le_refl _) _), Lib.hid ((hbS.setCell (p := ⟨W4.heap.size, 0, none⟩) hN0.out _).setCell (p := ⟨W4.heap.size, 1, none⟩) hN0.out _)⟩
      · go_wp2_with fail
        go_meet
        exact ⟨rfl, W4.heap.size, rfl, Lib.hid ((hF5.set_ 0 _).set_ 1 _), Lib.hid ((hbT.setCell (p := ⟨W4.heap.size, 0, none⟩) (Nat.le_refl _) _).setCell (p := ⟨W4.heap.size, 1, none⟩) (Nat.le_refl _) _), Lib.hid ((hbS.setCell (p := ⟨W4.heap.size, 0, none⟩) hN0.out _).setCell (p := ⟨W4.heap.size, 1, none⟩) hN0.out _)⟩
    case rest =>
      obtain ⟨rfl, N2, rfl, HN2, HT2, BB2⟩ := hcut
      clear HbD HbA hN0 K
      replace HN1 := Lib.hid (HN1.out.stay HT2.out)
      have m0 := HN1.out.cell 0
      have m1 := HN1.out.cell 1
      have l0 := HN2.out.cell 0
      have l1 := HN2.out.cell 1
      by_cases hf0 : fe = 0
      · have hab : ((a.length : Int) == (B.length : Int)) = true := beq_iff_eq.2 (by have := HY0.out hf0; omega)
        subst hf0
        go_wp2_with fail
        clear m0 m1 l0 l1
        refine (alive_any _ (HD.out.below BB2.out)).mono ?_
        rintro x w9 ⟨rfl, hb9⟩
        go_wp2
        go_ret
        exact ⟨rfl, HL.out.trans ((BB2.out.trans (hb9.mono BB2.out.size)).mono HL.out.size)⟩
      · have hfn : (fe != 0) = true := bne_iff_ne.2 hf0
        clear hf0
        go_wp2_with fail
        clear m0 m1 l0 l1
        refine (alive_any _ (HD.out.below BB2.out)).mono ?_
        rintro x w9 ⟨rfl, hb9⟩
        go_wp2
        go_ret
        exact ⟨rfl, HL.out.trans ((BB2.out.trans (hb9.mono BB2.out.size)).mono HL.out.size)⟩
end Go.Proofs.YtbcbmmgfdobdiaaDoor

/- The walks of ConvstreamWhole and ConvstreamClosed. -/
import Derived.Test.YtbcbmmgfdobdiaaDoorKT
import Derived.Test.YtbcbmmgfdobdiaaDoorKT9
namespace Go.Proofs.YtbcbmmgfdobdiaaDoor
open Go.RowKit

theorem StrO.ge {w : World} {g b0 : Nat} {K L : Cd} {p : Int} {rest : List UInt8} {done : Nat} (h : StrO w g b0 K L p rest done) : b0 ≤ g := by
  obtain ⟨k1, A1, n1, c1, q1, k2, A2, n2, c2, q2, h1, h2, h3, h4, h5⟩ := h
  exact h4.1
theorem SOk.ge {w : World} {g b0 : Nat} {K L : Cd} {p : Int} {inp out : List UInt8} (h : SOk w g b0 K L p inp out) : b0 ≤ g := by
  obtain ⟨rest, done, h1, h2, h3⟩ := h; exact h1.ge
set_option maxRecDepth 100000 in
set_option maxHeartbeats 8000000 in
theorem wk_whole (k1 : Int) (A1 : Option Addr) (n1 c1 : Nat) (q1 : List Int) (k2 : Int) (A2 : Option Addr) (n2 c2 : Nat) (q2 : List Int) (p : Int) (Al : Option Addr) (nl cl : Nat) (l : List (List UInt8)) (w : World) (h1 : Reads w w.heap.size 1 A1 n1 (q1.map iv)) (h2 : Reads w w.heap.size 1 A2 n2 (q2.map iv)) (hr : Reads w w.heap.size 1 Al nl (l.map sv)) (hl : ∀ s ∈ l, s.length ≤ 140737488355328) (hd : Dig w) :
    Calls Tryd.prog 12 #[.agg #[.int .i64 k1, .slice A1 n1 c1, .int .i64 k2, .slice A2 n2 c2, .int .i64 p], .slice Al nl cl] w fun e w' => e = .returned (.bool true) ∧ Below w.heap.size w w' := by
  have bn := below_new w (.cells #[.int .i64 k1, .slice A1 n1 c1, .int .i64 k2, .slice A2 n2 c2, .int .i64 p] 28)
  have HB := Lib.hid (Blk.new w 28 #[.int .i64 k1, .slice A1 n1 c1, .int .i64 k2, .slice A2 n2 c2, .int .i64 p])
  have H1 := Lib.hid ((h1.below bn).more bn.size)
  have H2 := Lib.hid ((h2.below bn).more bn.size)
  have HR := Lib.hid ((hr.below bn).more bn.size)
  have HD := Lib.hid (hd.below bn)
  have HL := Lib.hid bn
  have Hl := Lib.hid hl
  have Hnl := Lib.hid (show l.length = nl by have := hr.1; simpa using this)
  have hdl := hd.lt
  clear bn h1 h2 hr hd hl
  have g0 := HB.out.cell 0
  have g1 := HB.out.cell 1
  have g2 := HB.out.cell 2
  have g3 := HB.out.cell 3
  have g4 := HB.out.cell 4
  go_enter Tryd.func12, Tryd.ntmps12
  go_wp2_with fail
  clear g0 g1 g2 g3 g4
  obtain ⟨W, hW⟩ : ∃ W, W = (w.alloc (.cells #[.int .i64 k1, .slice A1 n1 c1, .int .i64 k2, .slice A2 n2 c2, .int .i64 p] 28)) := ⟨_, rfl⟩
  have hWs : W.heap.size = w.heap.size + 1 := by rw [hW]; simp
  rw [← hW] at HB H1 H2 HR HD HL ⊢
  clear hW
  have BB := Lib.hid (Below.refl W.heap.size W)
  refine (few8_any k1 A1 n1 c1 k2 A2 n2 c2 p Al nl cl l W (HR.out.up (Nat.le_refl _)) Hl.out).mono ?_
  rintro x w1 ⟨rfl, hb1⟩
  replace BB := Lib.hid (BB.out.trans (hb1.mono BB.out.size))
  clear hb1
  cases hfew : few8 l n1 n2 with
  | false =>
    clear hfew
    have HBc := Lib.hid (HB.out.stay BB.out)
    have g0 := HBc.out.cell 0
    have g1 := HBc.out.cell 1
    have g2 := HBc.out.cell 2
    have g3 := HBc.out.cell 3
    have g4 := HBc.out.cell 4
    go_wp2_with fail
    refine (alive_any _ (HD.out.below BB.out)).mono ?_
    rintro x w9 ⟨rfl, hb9⟩
    go_wp2
    go_ret
    exact ⟨rfl, HL.out.trans ((BB.out.trans (hb9.mono BB.out.size)).mono HL.out.size)⟩
  | true =>
    obtain ⟨hf1, hf2, hf3, hf4⟩ := few8_true hfew
    rw [Hnl.out] at hf1
    clear hfew
    have HBc := Lib.hid (HB.out.stay BB.out)
    have g0 := HBc.out.cell 0
    have g1 := HBc.out.cell 1
    have g2 := HBc.out.cell 2
    have g3 := HBc.out.cell 3
    have g4 := HBc.out.cell 4
    go_wp2_with fail
    clear g0 g1 g2 g3 g4
    clear HBc
    have X1 := Lib.hid ((H1.out.below BB.out).up BB.out.size)
    have X2 := Lib.hid ((H2.out.below BB.out).up BB.out.size)
    obtain ⟨e1, hC1⟩ := CkE_some k1 q1
    obtain ⟨e2, hC2⟩ := CkE_some k2 q2
    by_cases hgood : e1 = 0 ∧ e2 = 0 ∧ 1 ≤ p ∧ p ≤ 4
    rotate_left
    · refine (start_bad k1 A1 n1 c1 q1 k2 A2 n2 c2 q2 p e1 e2 w1 X1.out X2.out hC1 hC2 hgood).mono ?_
      rintro x w2 ⟨rfl, hb2⟩
      replace BB := Lib.hid (BB.out.trans (hb2.mono BB.out.size))
      clear hb2
      clear hC1 hC2 hgood X1 X2
      go_wp2_with fail
      refine (alive_any _ (HD.out.below BB.out)).mono ?_
      rintro x w9 ⟨rfl, hb9⟩
      go_wp2
      go_ret
      exact ⟨rfl, HL.out.trans ((BB.out.trans (hb9.mono BB.out.size)).mono HL.out.size)⟩
    obtain ⟨rfl, rfl, hp1, hp4⟩ := hgood
    refine (start_good k1 A1 n1 c1 q1 k2 A2 n2 c2 q2 p w1 X1.out X2.out hC1 hC2 hp1 hp4 (HD.out.below BB.out)).mono ?_
    rintro x w2 ⟨g, b0, rfl, ⟨hb0, hS⟩, hb2⟩
    have HC1 := Lib.hid hC1
    have HC2 := Lib.hid hC2
    have HS := Lib.hid hS
    have hgW : W.heap.size ≤ g := by have := hS.ge; have := BB.out.size; omega
    replace BB := Lib.hid (BB.out.trans (hb2.mono BB.out.size))
    clear hb2
    clear hS hC1 hC2 X1 X2
    have HRr := Lib.hid (show ∀ u, w2.grownBy u (some g) → Reads u u.heap.size 1 Al nl (l.map sv) from fun u hu => ((HR.out.below BB.out).grown hu BB.out.size (fun g' e => by injection e with e; omega)).up (Nat.le_trans BB.out.size hu.size))
    go_wp2_with fail
    refine (run_any g b0 (cdOf k1 q1) (cdOf k2 q2) p Al nl cl l w2 HS.out HRr.out hf2 (by omega)).mono ?_
    rintro x w3 ⟨a, fe, fv, rfl, hg3, hC3, hR3, hal⟩
    have HR3 := Lib.hid hR3
    have HC3 := Lib.hid hC3
    have hb3 : Below W.heap.size w2 w3 := below_of_grown hg3 hgW BB.out.size
    replace BB := Lib.hid (BB.out.trans hb3)
    clear hb3 hg3 hR3 hC3 HRr HS
    rcases HR3.out with hok | hok
    · obtain ⟨rfl, rfl, hcv⟩ := hok
      have bn4 := below_new w3 (.cells #[.int .i64 0, .int .i64 0] 37)
      have HN1 := Lib.hid (Blk.new w3 37 #[.int .i64 0, .int .i64 0])
      have HX := Lib.hid (show l.flatten = l.flatten from rfl)
      obtain ⟨X, hX⟩ : ∃ X, X = l.flatten := ⟨_, rfl⟩
      rw [← hX] at hcv hf2
      have hjl : l.flatten.length ≤ 10000 := by rw [← hX]; omega
      replace HX := Lib.hid hX.symm
      clear hX
      replace BB := Lib.hid (BB.out.trans (bn4.mono BB.out.size))
      clear bn4
      have CC := Lib.hid (show ∀ u, Below W.heap.size W u → Calls Tryd.prog 24 #[.agg #[.int .i64 k1, .slice A1 n1 c1], .agg #[.int .i64 k2, .slice A2 n2 c2], .string ⟨X.toArray⟩, .int .i64 p] u fun e v => e = .returned (.tuple #[.string ⟨a.toArray⟩, .agg #[.int .i64 0, .int .i64 0]]) ∧ Below u.heap.size u v from fun u hu =>
        (convK_any k1 A1 n1 c1 q1 k2 A2 n2 c2 q2 X p u ((H1.out.below hu).up hu.size) ((H2.out.below hu).up hu.size) HC1.out HC2.out (by omega) (by omega) (by omega) (HD.out.below hu)).mono fun e v ⟨h1, h2⟩ => ⟨by rw [h1, hcv]; rfl, h2⟩)
      have CJ := Lib.hid (show ∀ u, Below W.heap.size W u → Calls Tryd.prog 37 #[.slice Al nl cl] u fun e v => e = .returned (.string ⟨X.toArray⟩) ∧ v = u from fun u hu => by
        have h := join_any Al nl cl l u ((HR.out.below hu).up hu.size) hjl (by omega)
        rw [HX.out] at h; exact h)
      clear hcv
      go_wp2_with fail
      obtain ⟨W4, hW4⟩ : ∃ W, W = w3.alloc (.cells #[.int .i64 0, .int .i64 0] 37) := ⟨_, rfl⟩
      rw [← hW4] at HN1 BB ⊢
      clear hW4
      have K := Lib.hid (show ∀ u, Below W.heap.size W u → u.cell? ⟨w.heap.size, 0, none⟩ = some (.int .i64 k1) ∧ u.cell? ⟨w.heap.size, 1, none⟩ = some (.slice A1 n1 c1) ∧ u.cell? ⟨w.heap.size, 2, none⟩ = some (.int .i64 k2) ∧ u.cell? ⟨w.heap.size, 3, none⟩ = some (.slice A2 n2 c2) ∧ u.cell? ⟨w.heap.size, 4, none⟩ = some (.int .i64 p) from fun u hu => ⟨(HB.out.stay hu).cell 0, (HB.out.stay hu).cell 1, (HB.out.stay hu).cell 2, (HB.out.stay hu).cell 3, (HB.out.stay hu).cell 4⟩)
      have hN0 : Hid (W.heap.size ≤ W4.heap.size) := Lib.hid BB.out.size
      have HbD := Lib.hid BB.out.drew
      have HbA := Lib.hid ((BB.out.alloc BB.out.size (.cells #[.int .i64 0, .int .i64 0] 37)).drew)
      go_cut [9, 10] (fun s10 s11 wx => s10 = .string ⟨a.toArray⟩ ∧ ∃ N : Nat, s11 = .pointer (some ⟨N, 0, none⟩) ∧ Hid (Blk wx N 37 #[.int .i64 0, .int .i64 0]) ∧ Hid (Below W4.heap.size W4 wx) ∧ Hid (Below W.heap.size W wx))
      case first =>
        go_region_held3 (fun u => u.cell? ⟨w.heap.size, 0, none⟩ = some (.int .i64 k1) ∧ u.cell? ⟨w.heap.size, 1, none⟩ = some (.slice A1 n1 c1) ∧ u.cell? ⟨w.heap.size, 2, none⟩ = some (.int .i64 k2) ∧ u.cell? ⟨w.heap.size, 3, none⟩ = some (.slice A2 n2 c2) ∧ u.cell? ⟨w.heap.size, 4, none⟩ = some (.int .i64 p)) (first | exact K.out _ HbD.out | exact K.out _ HbA.out | exact K.out _ hbS | exact K.out _ (hbS.alloc hbS.size _) | exact K.out _ ((hbS.setCell (p := ⟨W4.heap.size, 0, none⟩) hN0.out _).setCell (p := ⟨W4.heap.size, 1, none⟩) hN0.out _)) (first | (go_at_call 37; (first | ((with_reducible refine (CJ.out _ HbD.out).mono ?_); rintro e w5 ⟨rfl, rfl⟩) | ((with_reducible refine (CJ.out _ HbA.out).mono ?_); rintro e w5 ⟨rfl, rfl⟩))) | (go_at_call 24; (first | ((with_reducible refine (CC.out _ HbD.out).mono ?_); rintro e w5 ⟨rfl, hb5⟩; have hbS := HbD.out.trans (hb5.mono HbD.out.size); have hbT := (Below.refl W4.heap.size W4).drew.trans hb5; clear hb5) | ((with_reducible refine (CC.out _ HbA.out).mono ?_); rintro e w5 ⟨rfl, hb5⟩; have hF5 : Blk w5 W4.heap.size 37 #[.int .i64 0, .int .i64 0] := (Blk.new W4 37 #[.int .i64 0, .int .i64 0]).drew.stay hb5; have z0 := hF5.cell 0; have z1 := hF5.cell 1; have f0 := hF5.frozen 0; have f1 := hF5.frozen 1; have hbS := HbA.out.trans (hb5.mono HbA.out.size); have hbT := (below_new W4 (.cells #[.int .i64 0, .int .i64 0] 37)).drew.trans (hb5.mono (below_new W4 (.cells #[.int .i64 0, .int .i64 0] 37)).size); clear hb5))))
        · go_wp2_with fail
          go_meet
          exact ⟨rfl, w5.heap.size, rfl, Lib.hid (Blk.new _ _ _), Lib.hid (hbT.alloc hbT.size _), Lib.hid (hbS.alloc hbS.size _)⟩
        · go_wp2_with fail
          go_meet
          exact ⟨rfl, W4.heap.size, rfl, Lib.hid ((hF5.set_ 0 _).set_ 1 _), Lib.hid ((hbT.setCell (p := ⟨W4.heap.size, 0, none⟩) (Nat.le_refl _) _).setCell (p := ⟨W4.heap.size, 1, none⟩) (Nat.le_refl _) _), Lib.hid ((hbS.setCell (p := ⟨W4.heap.size, 0, none⟩) hN0.out _).setCell (p := ⟨W4.heap.size, 1, none⟩) hN0.out _)⟩
        · go_wp2_with fail
          go_meet
          exact ⟨rfl, W4.heap.size, rfl, Lib.hid ((hF5.set_ 0 _).set_ 1 _), Lib.hid ((hbT.setCell (p := ⟨W4.heap.size, 0, none⟩) (Nat.le_refl _) _).setCell (p := ⟨W4.heap.size, 1, none⟩) (Nat.le_refl _) _), Lib.hid ((hbS.setCell (p := ⟨W4.heap.size, 0, none⟩) hN0.out _).setCell (p := ⟨W4.heap.size, 1, none⟩) hN0.out _)⟩
      case rest =>
        obtain ⟨rfl, N2, rfl, HN2, HT2, BB2⟩ := hcut
        clear HbD HbA hN0 K
        replace HN1 := Lib.hid (HN1.out.stay HT2.out)
        have m0 := HN1.out.cell 0
        have m1 := HN1.out.cell 1
        have l0 := HN2.out.cell 0
        have l1 := HN2.out.cell 1
        go_wp2_with fail
        clear m0 m1 l0 l1
        refine (alive_any _ (HD.out.below BB2.out)).mono ?_
        rintro x w9 ⟨rfl, hb9⟩
        go_wp2
        go_ret
        exact ⟨rfl, HL.out.trans ((BB2.out.trans (hb9.mono BB2.out.size)).mono HL.out.size)⟩
    · obtain ⟨hfe, rfl, ⟨i, rfl, hcv⟩, _⟩ := hok
      have bn4 := below_new w3 (.cells #[.int .i64 fe, .int .i64 (i : Int)] 37)
      have HN1 := Lib.hid (Blk.new w3 37 #[.int .i64 fe, .int .i64 (i : Int)])
      have HX := Lib.hid (show l.flatten = l.flatten from rfl)
      obtain ⟨X, hX⟩ : ∃ X, X = l.flatten := ⟨_, rfl⟩
      rw [← hX] at hcv hf2
      have hjl : l.flatten.length ≤ 10000 := by rw [← hX]; omega
      replace HX := Lib.hid hX.symm
      clear hX
      replace BB := Lib.hid (BB.out.trans (bn4.mono BB.out.size))
      clear bn4
      have hfn : (fe != 0) = true := bne_iff_ne.2 hfe
      clear hfe
      have CC := Lib.hid (show ∀ u, Below W.heap.size W u → Calls Tryd.prog 24 #[.agg #[.int .i64 k1, .slice A1 n1 c1], .agg #[.int .i64 k2, .slice A2 n2 c2], .string ⟨X.toArray⟩, .int .i64 1] u fun e v => e = .returned (.tuple #[.string ⟨([] : List UInt8).toArray⟩, .agg #[.int .i64 fe, .int .i64 (i : Int)]]) ∧ Below u.heap.size u v from fun u hu =>
        (convK_any k1 A1 n1 c1 q1 k2 A2 n2 c2 q2 X 1 u ((H1.out.below hu).up hu.size) ((H2.out.below hu).up hu.size) HC1.out HC2.out (by omega) (by omega) (by omega) (HD.out.below hu)).mono fun e v ⟨h1, h2⟩ => ⟨by rw [h1, hcv]; rfl, h2⟩)
      have CJ := Lib.hid (show ∀ u, Below W.heap.size W u → Calls Tryd.prog 37 #[.slice Al nl cl] u fun e v => e = .returned (.string ⟨X.toArray⟩) ∧ v = u from fun u hu => by
        have h := join_any Al nl cl l u ((HR.out.below hu).up hu.size) hjl (by omega)
        rw [HX.out] at h; exact h)
      clear hcv
      go_wp2_with fail
      obtain ⟨W4, hW4⟩ : ∃ W, W = w3.alloc (.cells #[.int .i64 fe, .int .i64 (i : Int)] 37) := ⟨_, rfl⟩
      rw [← hW4] at HN1 BB ⊢
      clear hW4
      have K := Lib.hid (show ∀ u, Below W.heap.size W u → u.cell? ⟨w.heap.size, 0, none⟩ = some (.int .i64 k1) ∧ u.cell? ⟨w.heap.size, 1, none⟩ = some (.slice A1 n1 c1) ∧ u.cell? ⟨w.heap.size, 2, none⟩ = some (.int .i64 k2) ∧ u.cell? ⟨w.heap.size, 3, none⟩ = some (.slice A2 n2 c2) ∧ u.cell? ⟨w.heap.size, 4, none⟩ = some (.int .i64 1) from fun u hu => ⟨(HB.out.stay hu).cell 0, (HB.out.stay hu).cell 1, (HB.out.stay hu).cell 2, (HB.out.stay hu).cell 3, (HB.out.stay hu).cell 4⟩)
      have hN0 : Hid (W.heap.size ≤ W4.heap.size) := Lib.hid BB.out.size
      have HbD := Lib.hid BB.out.drew
      have HbA := Lib.hid ((BB.out.alloc BB.out.size (.cells #[.int .i64 0, .int .i64 0] 37)).drew)
      go_cut [9, 10] (fun s10 s11 wx => s10 = .string ⟨([] : List UInt8).toArray⟩ ∧ ∃ N : Nat, s11 = .pointer (some ⟨N, 0, none⟩) ∧ Hid (Blk wx N 37 #[.int .i64 fe, .int .i64 (i : Int)]) ∧ Hid (Below W4.heap.size W4 wx) ∧ Hid (Below W.heap.size W wx))
      case first =>
        go_region_held3 (fun u => u.cell? ⟨w.heap.size, 0, none⟩ = some (.int .i64 k1) ∧ u.cell? ⟨w.heap.size, 1, none⟩ = some (.slice A1 n1 c1) ∧ u.cell? ⟨w.heap.size, 2, none⟩ = some (.int .i64 k2) ∧ u.cell? ⟨w.heap.size, 3, none⟩ = some (.slice A2 n2 c2) ∧ u.cell? ⟨w.heap.size, 4, none⟩ = some (.int .i64 1)) (first | exact K.out _ HbD.out | exact K.out _ HbA.out | exact K.out _ hbS | exact K.out _ (hbS.alloc hbS.size _) | exact K.out _ ((hbS.setCell (p := ⟨W4.heap.size, 0, none⟩) hN0.out _).setCell (p := ⟨W4.heap.size, 1, none⟩) hN0.out _)) (first | (go_at_call 37; (first | ((with_reducible refine (CJ.out _ HbD.out).mono ?_); rintro e w5 ⟨rfl, rfl⟩) | ((with_reducible refine (CJ.out _ HbA.out).mono ?_); rintro e w5 ⟨rfl, rfl⟩))) | (go_at_call 24; (first | ((with_reducible refine (CC.out _ HbD.out).mono ?_); rintro e w5 ⟨rfl, hb5⟩; have hbS := HbD.out.trans (hb5.mono HbD.out.size); have hbT := (Below.refl W4.heap.size W4).drew.trans hb5; clear hb5) | ((with_reducible refine (CC.out _ HbA.out).mono ?_); rintro e w5 ⟨rfl, hb5⟩; have hF5 : Blk w5 W4.heap.size 37 #[.int .i64 0, .int .i64 0] := (Blk.new W4 37 #[.int .i64 0, .int .i64 0]).drew.stay hb5; have z0 := hF5.cell 0; have z1 := hF5.cell 1; have f0 := hF5.frozen 0; have f1 := hF5.frozen 1; have hbS := HbA.out.trans (hb5.mono HbA.out.size); have hbT := (below_new W4 (.cells #[.int .i64 0, .int .i64 0] 37)).drew.trans (hb5.mono (below_new W4 (.cells #[.int .i64 0, .int .i64 0] 37)).size); clear hb5))))
        · go_wp2_with fail
          go_meet
          exact ⟨rfl, w5.heap.size, rfl, Lib.hid (Blk.new _ _ _), Lib.hid (hbT.alloc hbT.size _), Lib.hid (hbS.alloc hbS.size _)⟩
        · go_wp2_with fail
          go_meet
          exact ⟨rfl, W4.heap.size, rfl, Lib.hid ((hF5.set_ 0 _).set_ 1 _), Lib.hid ((hbT.setCell (p := ⟨W4.heap.size, 0, none⟩) (Nat.le_refl _) _).setCell (p := ⟨W4.heap.size, 1, none⟩) (Nat.le_refl _) _), Lib.hid ((hbS.setCell (p := ⟨W4.heap.size, 0, none⟩) hN0.out _).setCell (p := ⟨W4.heap.size, 1, none⟩) hN0.out _)⟩
        · go_wp2_with fail
          go_meet
          exact ⟨rfl, W4.heap.size, rfl, Lib.hid ((hF5.set_ 0 _).set_ 1 _), Lib.hid ((hbT.setCell (p := ⟨W4.heap.size, 0, none⟩) (Nat.le_refl _) _).setCell (p := ⟨W4.heap.size, 1, none⟩) (Nat.le_refl _) _), Lib.hid ((hbS.setCell (p := ⟨W4.heap.size, 0, none⟩) hN0.out _).setCell (p := ⟨W4.heap.size, 1, none⟩) hN0.out _)⟩
      case rest =>
        obtain ⟨rfl, N2, rfl, HN2, HT2, BB2⟩ := hcut
        clear HbD HbA hN0 K
        replace HN1 := Lib.hid (HN1.out.stay HT2.out)
        have m0 := HN1.out.cell 0
        have m1 := HN1.out.cell 1
        have l0 := HN2.out.cell 0
        have l1 := HN2.out.cell 1
        go_wp2_with fail
        clear m0 m1 l0 l1
        refine (alive_any _ (HD.out.below BB2.out)).mono ?_
        rintro x w9 ⟨rfl, hb9⟩
        go_wp2
        go_ret
        exact ⟨rfl, HL.out.trans ((BB2.out.trans (hb9.mono BB2.out.size)).mono HL.out.size)⟩
set_option maxRecDepth 100000 in
set_option maxHeartbeats 8000000 in
theorem wk_closed (k1 : Int) (A1 : Option Addr) (n1 c1 : Nat) (q1 : List Int) (k2 : Int) (A2 : Option Addr) (n2 c2 : Nat) (q2 : List Int) (p : Int) (Al : Option Addr) (nl cl : Nat) (l : List (List UInt8)) (b : List UInt8) (w : World) (h1 : Reads w w.heap.size 1 A1 n1 (q1.map iv)) (h2 : Reads w w.heap.size 1 A2 n2 (q2.map iv)) (hr : Reads w w.heap.size 1 Al nl (l.map sv)) (hl : ∀ s ∈ l, s.length ≤ 140737488355328) (hd : Dig w) :
    Calls Tryd.prog 3 #[.agg #[.int .i64 k1, .slice A1 n1 c1, .int .i64 k2, .slice A2 n2 c2, .int .i64 p], .slice Al nl cl, .string ⟨b.toArray⟩] w fun e w' => e = .returned (.bool true) ∧ Below w.heap.size w w' := by
  have bn := below_new w (.cells #[.int .i64 k1, .slice A1 n1 c1, .int .i64 k2, .slice A2 n2 c2, .int .i64 p] 28)
  have HB := Lib.hid (Blk.new w 28 #[.int .i64 k1, .slice A1 n1 c1, .int .i64 k2, .slice A2 n2 c2, .int .i64 p])
  have H1 := Lib.hid ((h1.below bn).more bn.size)
  have H2 := Lib.hid ((h2.below bn).more bn.size)
  have HR := Lib.hid ((hr.below bn).more bn.size)
  have HD := Lib.hid (hd.below bn)
  have HL := Lib.hid bn
  have Hl := Lib.hid hl
  have Hnl := Lib.hid (show l.length = nl by have := hr.1; simpa using this)
  have hdl := hd.lt
  clear bn h1 h2 hr hd hl
  have g0 := HB.out.cell 0
  have g1 := HB.out.cell 1
  have g2 := HB.out.cell 2
  have g3 := HB.out.cell 3
  have g4 := HB.out.cell 4
  go_enter Tryd.func3, Tryd.ntmps3
  go_wp2_with fail
  clear g0 g1 g2 g3 g4
  obtain ⟨W, hW⟩ : ∃ W, W = (w.alloc (.cells #[.int .i64 k1, .slice A1 n1 c1, .int .i64 k2, .slice A2 n2 c2, .int .i64 p] 28)) := ⟨_, rfl⟩
  have hWs : W.heap.size = w.heap.size + 1 := by rw [hW]; simp
  rw [← hW] at HB H1 H2 HR HD HL ⊢
  clear hW
  have BB := Lib.hid (Below.refl W.heap.size W)
  refine (few8_any k1 A1 n1 c1 k2 A2 n2 c2 p Al nl cl l W (HR.out.up (Nat.le_refl _)) Hl.out).mono ?_
  rintro x w1 ⟨rfl, hb1⟩
  replace BB := Lib.hid (BB.out.trans (hb1.mono BB.out.size))
  clear hb1
  cases hfew : few8 l n1 n2 with
  | false =>
    clear hfew
    have HBc := Lib.hid (HB.out.stay BB.out)
    have g0 := HBc.out.cell 0
    have g1 := HBc.out.cell 1
    have g2 := HBc.out.cell 2
    have g3 := HBc.out.cell 3
    have g4 := HBc.out.cell 4
    go_wp2_with fail
    refine (alive_any _ (HD.out.below BB.out)).mono ?_
    rintro x w9 ⟨rfl, hb9⟩
    go_wp2
    go_ret
    exact ⟨rfl, HL.out.trans ((BB.out.trans (hb9.mono BB.out.size)).mono HL.out.size)⟩
  | true =>
    obtain ⟨hf1, hf2, hf3, hf4⟩ := few8_true hfew
    rw [Hnl.out] at hf1
    clear hfew
    by_cases hb60 : (60 : Int) < b.length
    · skip
      have HBc := Lib.hid (HB.out.stay BB.out)
      have g0 := HBc.out.cell 0
      have g1 := HBc.out.cell 1
      have g2 := HBc.out.cell 2
      have g3 := HBc.out.cell 3
      have g4 := HBc.out.cell 4
      go_wp2_with fail
      refine (alive_any _ (HD.out.below BB.out)).mono ?_
      rintro x w9 ⟨rfl, hb9⟩
      go_wp2
      go_ret
      exact ⟨rfl, HL.out.trans ((BB.out.trans (hb9.mono BB.out.size)).mono HL.out.size)⟩
    have HBc := Lib.hid (HB.out.stay BB.out)
    have g0 := HBc.out.cell 0
    have g1 := HBc.out.cell 1
    have g2 := HBc.out.cell 2
    have g3 := HBc.out.cell 3
    have g4 := HBc.out.cell 4
    go_wp2_with fail
    clear g0 g1 g2 g3 g4
    clear HBc
    have X1 := Lib.hid ((H1.out.below BB.out).up BB.out.size)
    have X2 := Lib.hid ((H2.out.below BB.out).up BB.out.size)
    obtain ⟨e1, hC1⟩ := CkE_some k1 q1
    obtain ⟨e2, hC2⟩ := CkE_some k2 q2
    by_cases hgood : e1 = 0 ∧ e2 = 0 ∧ 1 ≤ p ∧ p ≤ 4
    rotate_left
    · refine (start_bad k1 A1 n1 c1 q1 k2 A2 n2 c2 q2 p e1 e2 w1 X1.out X2.out hC1 hC2 hgood).mono ?_
      rintro x w2 ⟨rfl, hb2⟩
      replace BB := Lib.hid (BB.out.trans (hb2.mono BB.out.size))
      clear hb2
      clear hC1 hC2 hgood X1 X2
      go_wp2_with fail
      refine (alive_any _ (HD.out.below BB.out)).mono ?_
      rintro x w9 ⟨rfl, hb9⟩
      go_wp2
      go_ret
      exact ⟨rfl, HL.out.trans ((BB.out.trans (hb9.mono BB.out.size)).mono HL.out.size)⟩
    obtain ⟨rfl, rfl, hp1, hp4⟩ := hgood
    refine (start_good k1 A1 n1 c1 q1 k2 A2 n2 c2 q2 p w1 X1.out X2.out hC1 hC2 hp1 hp4 (HD.out.below BB.out)).mono ?_
    rintro x w2 ⟨g, b0, rfl, ⟨hb0, hS⟩, hb2⟩
    have HC1 := Lib.hid hC1
    have HC2 := Lib.hid hC2
    have HS := Lib.hid hS
    have hgW : W.heap.size ≤ g := by have := hS.ge; have := BB.out.size; omega
    replace BB := Lib.hid (BB.out.trans (hb2.mono BB.out.size))
    clear hb2
    clear hS hC1 hC2 X1 X2
    have HRr := Lib.hid (show ∀ u, w2.grownBy u (some g) → Reads u u.heap.size 1 Al nl (l.map sv) from fun u hu => ((HR.out.below BB.out).grown hu BB.out.size (fun g' e => by injection e with e; omega)).up (Nat.le_trans BB.out.size hu.size))
    go_wp2_with fail
    refine (run_any g b0 (cdOf k1 q1) (cdOf k2 q2) p Al nl cl l w2 HS.out HRr.out hf2 (by omega)).mono ?_
    rintro x w3 ⟨a, fe, fv, rfl, hg3, hC3, hR3, hal⟩
    have HR3 := Lib.hid hR3
    have HC3 := Lib.hid hC3
    have hb3 : Below W.heap.size w2 w3 := below_of_grown hg3 hgW BB.out.size
    replace BB := Lib.hid (BB.out.trans hb3)
    clear hb3 hg3 hR3 hC3 HRr HS
    have HSh := Lib.hid (shutAt_of HC3.out)
    go_wp2_with fail
    go_loopw [9] (fun i wr => ∃ (k : Nat), k ≤ 2 ∧ i = .int .i64 (k : Int) ∧ Hid (Below w3.heap.size w3 wr)) (fun i _ => 2 - (intOf i).toNat)
    case atStart => exact ⟨0, by omega, rfl, Lib.hid (Below.refl _ _)⟩
    case round =>
      obtain ⟨k, hk, rfl, Hb⟩ := hrel
      by_cases h2 : k < 2
      · have h2i : (k : Int) < 2 := by omega
        go_wp2_with fail
        refine ((HSh.out wr Hb.out).1 b).mono ?_
        rintro x w4 ⟨rfl, hb4⟩
        have bn4 := below_new w4 (.cells #[.int .i64 15, .int .i64 0] 37)
        have HF1 := Lib.hid (Blk.new w4 37 #[.int .i64 15, .int .i64 0])
        have Hb4 := Lib.hid ((Hb.out.trans (hb4.mono Hb.out.size)).trans (bn4.mono (Nat.le_trans Hb.out.size hb4.size)))
        clear hb4 bn4
        go_wp2_with fail
        obtain ⟨W4, hW4⟩ : ∃ W, W = w4.alloc (.cells #[.int .i64 15, .int .i64 0] 37) := ⟨_, rfl⟩
        rw [← hW4] at HF1 Hb4 ⊢
        clear hW4
        refine ((HSh.out W4 Hb4.out).2.1).mono ?_
        rintro x w5 ⟨rfl, hb5⟩
        have bn5 := below_new w5 (.cells #[.int .i64 15, .int .i64 0] 37)
        have HF2 := Lib.hid (Blk.new w5 37 #[.int .i64 15, .int .i64 0])
        have Hb5 := Lib.hid ((Hb4.out.trans (hb5.mono Hb4.out.size)).trans (bn5.mono (Nat.le_trans Hb4.out.size hb5.size)))
        have hF1 := (HF1.out.stay hb5).stay bn5
        clear hb5 bn5
        have m0 := hF1.cell 0
        have m1 := hF1.cell 1
        have l0 := HF2.out.cell 0
        have l1 := HF2.out.cell 1
        go_wp2_with fail
        clear m0 m1 l0 l1 hF1
        obtain ⟨W5, hW5⟩ : ∃ W, W = w5.alloc (.cells #[.int .i64 15, .int .i64 0] 37) := ⟨_, rfl⟩
        rw [← hW5] at HF2 Hb5 ⊢
        clear hW5
        refine ((HSh.out W5 Hb5.out).2.2).mono ?_
        rintro x w6 ⟨rfl, rfl⟩
        go_wp2
        go_roundw
        case rel => exact ⟨k + 1, by omega, by go_num, Hb5⟩
        case measure => simp [intOf]; omega
      · have h2i : ¬ (k : Int) < 2 := by omega
        replace BB := Lib.hid (BB.out.trans (Hb.out.mono BB.out.size))
        go_wp2_with fail
        refine (alive_any _ (HD.out.below BB.out)).mono ?_
        rintro x w9 ⟨rfl, hb9⟩
        go_wp2
        go_ret
        exact ⟨rfl, HL.out.trans ((BB.out.trans (hb9.mono BB.out.size)).mono HL.out.size)⟩
end Go.Proofs.YtbcbmmgfdobdiaaDoor

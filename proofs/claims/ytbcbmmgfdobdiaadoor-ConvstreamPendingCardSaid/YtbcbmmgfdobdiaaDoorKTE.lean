/- The walk of ConvstreamPending. -/
import Derived.Test.YtbcbmmgfdobdiaaDoorKTB
namespace Go.Proofs.YtbcbmmgfdobdiaaDoor
open Go.RowKit

set_option maxRecDepth 100000 in
set_option maxHeartbeats 8000000 in
theorem wk_pending (k1 : Int) (A1 : Option Addr) (n1 c1 : Nat) (q1 : List Int) (k2 : Int) (A2 : Option Addr) (n2 c2 : Nat) (q2 : List Int) (p : Int) (Al : Option Addr) (nl cl : Nat) (l : List (List UInt8)) (w : World) (h1 : Reads w w.heap.size 1 A1 n1 (q1.map iv)) (h2 : Reads w w.heap.size 1 A2 n2 (q2.map iv)) (hr : Reads w w.heap.size 1 Al nl (l.map sv)) (hl : ∀ s ∈ l, s.length ≤ 140737488355328) (hd : Dig w) :
    Calls Tryd.prog 10 #[.agg #[.int .i64 k1, .slice A1 n1 c1, .int .i64 k2, .slice A2 n2 c2, .int .i64 p], .slice Al nl cl] w fun e w' => e = .returned (.bool true) ∧ Below w.heap.size w w' := by
  have bn := below_new w (.cells #[.int .i64 k1, .slice A1 n1 c1, .int .i64 k2, .slice A2 n2 c2, .int .i64 p] 28)
  have HB := Lib.hid (Blk.new w 28 #[.int .i64 k1, .slice A1 n1 c1, .int .i64 k2, .slice A2 n2 c2, .int .i64 p])
  have H1 := Lib.hid ((h1.below bn).more bn.size)
  have H2 := Lib.hid ((h2.below bn).more bn.size)
  have HR := Lib.hid ((hr.below bn).more bn.size)
  have HD := Lib.hid (hd.below bn)
  have HL := Lib.hid bn
  have Hl := Lib.hid hl
  have Hnl := Lib.hid (show l.length = nl by have := hr.1; simpa using this)
  have hdl := hd.lt
  clear bn h1 h2 hr hd hl
  have g0 := HB.out.cell 0
  have g1 := HB.out.cell 1
  have g2 := HB.out.cell 2
  have g3 := HB.out.cell 3
  have g4 := HB.out.cell 4
  go_enter Tryd.func10, Tryd.ntmps10
  go_wp2_with fail
  clear g0 g1 g2 g3 g4
  obtain ⟨W, hW⟩ : ∃ W, W = (w.alloc (.cells #[.int .i64 k1, .slice A1 n1 c1, .int .i64 k2, .slice A2 n2 c2, .int .i64 p] 28)) := ⟨_, rfl⟩
  have hWs : W.heap.size = w.heap.size + 1 := by rw [hW]; simp
  rw [← hW] at HB H1 H2 HR HD HL ⊢
  clear hW
  have BB := Lib.hid (Below.refl W.heap.size W)
  refine (few8_any k1 A1 n1 c1 k2 A2 n2 c2 p Al nl cl l W (HR.out.up (Nat.le_refl _)) Hl.out).mono ?_
  rintro x w1 ⟨rfl, hb1⟩
  replace BB := Lib.hid (BB.out.trans (hb1.mono BB.out.size))
  clear hb1
  cases hfew : few8 l n1 n2 with
  | false =>
    clear hfew
    have HBc := Lib.hid (HB.out.stay BB.out)
    have g0 := HBc.out.cell 0
    have g1 := HBc.out.cell 1
    have g2 := HBc.out.cell 2
    have g3 := HBc.out.cell 3
    have g4 := HBc.out.cell 4
    go_wp2_with fail
    refine (alive_any _ (HD.out.below BB.out)).mono ?_
    rintro x w9 ⟨rfl, hb9⟩
    go_wp2
    go_ret
    exact ⟨rfl, HL.out.trans ((BB.out.trans (hb9.mono BB.out.size)).mono HL.out.size)⟩
  | true =>
    obtain ⟨hf1, hf2, hf3, hf4⟩ := few8_true hfew
    rw [Hnl.out] at hf1
    clear hfew
    have HBc := Lib.hid (HB.out.stay BB.out)
    have g0 := HBc.out.cell 0
    have g1 := HBc.out.cell 1
    have g2 := HBc.out.cell 2
    have g3 := HBc.out.cell 3
    have g4 := HBc.out.cell 4
    go_wp2_with fail
    clear g0 g1 g2 g3 g4
    clear HBc
    have X1 := Lib.hid ((H1.out.below BB.out).up BB.out.size)
    have X2 := Lib.hid ((H2.out.below BB.out).up BB.out.size)
    obtain ⟨e1, hC1⟩ := CkE_some k1 q1
    obtain ⟨e2, hC2⟩ := CkE_some k2 q2
    by_cases hgood : e1 = 0 ∧ e2 = 0 ∧ 1 ≤ p ∧ p ≤ 4
    rotate_left
    · refine (start_bad k1 A1 n1 c1 q1 k2 A2 n2 c2 q2 p e1 e2 w1 X1.out X2.out hC1 hC2 hgood).mono ?_
      rintro x w2 ⟨rfl, hb2⟩
      replace BB := Lib.hid (BB.out.trans (hb2.mono BB.out.size))
      clear hb2
      clear hC1 hC2 hgood X1 X2
      go_wp2_with fail
      refine (alive_any _ (HD.out.below BB.out)).mono ?_
      rintro x w9 ⟨rfl, hb9⟩
      go_wp2
      go_ret
      exact ⟨rfl, HL.out.trans ((BB.out.trans (hb9.mono BB.out.size)).mono HL.out.size)⟩
    obtain ⟨rfl, rfl, hp1, hp4⟩ := hgood
    refine (start_good k1 A1 n1 c1 q1 k2 A2 n2 c2 q2 p w1 X1.out X2.out hC1 hC2 hp1 hp4 (HD.out.below BB.out)).mono ?_
    rintro x w2 ⟨g, b0, rfl, ⟨hb0, hS⟩, hb2⟩
    have HC1 := Lib.hid hC1
    have HC2 := Lib.hid hC2
    have HS := Lib.hid hS
    have hgW : W.heap.size ≤ g := by have := hS.ge; have := BB.out.size; omega
    replace BB := Lib.hid (BB.out.trans (hb2.mono BB.out.size))
    clear hb2
    clear hS hC1 hC2 X1 X2
    have HB2 := Lib.hid BB.out
    go_wp2_with fail
    go_loopw [7, 8, 9] (fun inv ov i wr => ∃ (k : Nat) (out : List UInt8), k ≤ nl ∧ i = .int .i64 (k : Int) ∧ inv = .string ⟨(l.take k).flatten.toArray⟩ ∧ ov = .string ⟨out.toArray⟩ ∧ Hid (SOk wr g b0 (cdOf k1 q1) (cdOf k2 q2) p (l.take k).flatten out) ∧ Hid (Below W.heap.size W wr)) (fun _ _ i _ => nl - (intOf i).toNat)
    case atStart => exact ⟨0, [], by omega, rfl, by simp, rfl, by simpa using HS, HB2⟩
    case round =>
      obtain ⟨k, out, hk, rfl, rfl, rfl, HSr, Hb⟩ := hrel
      clear HS HB2 BB
      have BB := Hb
      clear Hb
      have hfk := flat_le l k
      have hol : out.length ≤ 19200 := by have := HSr.out.out_len; omega
      by_cases h1 : k < nl
      · obtain ⟨ad, u, rfl, hadl, hu, hcell⟩ := (HR.out.below BB.out).at_ h1
        obtain ⟨s, hs, rfl⟩ := sv_at hu
        have Hf := Lib.hid (flat_succ hs)
        have hf1 := flat_le l (k + 1)
        rw [Hf.out, List.length_append] at hf1
        clear hu hs
        have h1i : (k : Int) < (nl : Int) := by omega
        obtain ⟨I0, hI0⟩ : ∃ I0, I0 = (l.take k).flatten := ⟨_, rfl⟩
        rw [← hI0] at HSr hf1 Hf hfk ⊢
        clear hI0
        go_wp2_with fail
        refine (write_law HSr.out s (by omega)).mono ?_
        rintro e w5 ⟨t, fe, fv, rfl, hgw, hcase⟩
        have HW := Lib.hid hcase
        have BB5 := Lib.hid (BB.out.trans (below_of_grown hgw hgW BB.out.size))
        have bn5 := below_new w5 (.cells #[.int .i64 fe, .int .i64 fv] 37)
        have HN := Lib.hid (Blk.new w5 37 #[.int .i64 fe, .int .i64 fv])
        have BB6 := Lib.hid (BB5.out.trans (bn5.mono BB5.out.size))
        have HB5 := Lib.hid bn5
        have hcell5 : (w5.alloc (.cells #[.int .i64 fe, .int .i64 fv] 37)).cell? (ad.add k) = some (.string ⟨s.toArray⟩) := by
          have ha := (Below.cell (BB5.out.trans (bn5.mono BB5.out.size)) (p := ad.add k) (by rw [block_of_add]; exact hadl)).trans (Below.cell BB.out (p := ad.add k) (by rw [block_of_add]; exact hadl)).symm
          rw [ha]; exact hcell
        have hcatI : (⟨I0.toArray⟩ : ByteArray) ++ ⟨s.toArray⟩ = ⟨(I0 ++ s).toArray⟩ := ByteArray.mk_append_mk I0 s
        have hcatO : (⟨out.toArray⟩ : ByteArray) ++ ⟨t.toArray⟩ = ⟨(out ++ t).toArray⟩ := ByteArray.mk_append_mk out t
        have htl : out.length + t.length ≤ 19200 := by
          rcases hcase with ⟨_, _, h3⟩ | ⟨_, h3, _⟩
          · have := h3.out_len; rw [List.length_append, List.length_append] at this; omega
          · rw [h3]; simpa using hol
        clear hcase hgw bn5 hcell
        go_wp2_with fail
        clear hcell5
        obtain ⟨W6, hW6⟩ : ∃ W, W = w5.alloc (.cells #[.int .i64 fe, .int .i64 fv] 37) := ⟨_, rfl⟩
        rw [← hW6] at HN BB6 HB5 ⊢
        clear hW6
        rcases HW.out with ⟨rfl, rfl, hS5⟩ | ⟨hfe, rfl, rfl, hC5, i, rfl, herr⟩
        · have HS6 := Lib.hid (hS5.stay HB5.out)
          clear hS5 HW HSr
          refine (pending_law HS6.out).mono ?_
          rintro x w7 ⟨⟨rest, done, rfl, hI, hrl⟩, rfl⟩
          obtain ⟨J, hJ⟩ : ∃ J, J = I0 ++ s := ⟨_, rfl⟩
          have hJl : J.length ≤ 60 := by rw [hJ, List.length_append]; omega
          rw [← hJ] at hI HS6 hcatI Hf ⊢
          clear hJ
          obtain ⟨hd1, hd2, _, hd4⟩ := hI
          have hlen : rest.length = J.length - done := by rw [hd2, List.length_drop]
          have hx1 : (⟨J.toArray⟩ : ByteArray).extract done J.length = ⟨rest.toArray⟩ := by rw [ext_drop, ← hd2]
          have hx2 := ext_head' J done
          have hi1 : ¬ (3 : Int) < (rest.length : Int) := by omega
          have hi2 : ¬ (J.length : Int) < (rest.length : Int) := by omega
          have hsub : (J.length : Int) - (rest.length : Int) = (done : Int) := by omega
          have hdi : (done : Int) ≤ (J.length : Int) := by omega
          have hd0 : (0 : Int) ≤ (done : Int) := by omega
          have hwr : IntKind.i64.wrap ((J.length : Int) - (rest.length : Int)) = (done : Int) := by rw [IntWalk.i64_in _ (by omega)]; omega
          have hwd : IntKind.i64.wrap (done : Int) = (done : Int) := IntWalk.i64_in _ (by omega)
          have HWr := Lib.hid (And.intro hwr (And.intro hwd hd0))
          clear hwr hwd hd0
          have HTl := Lib.hid (show (J.take done).length ≤ 100000 by rw [List.length_take]; omega)
          obtain ⟨X, hX⟩ : ∃ X, X = J.take done := ⟨_, rfl⟩
          rw [← hX] at hx2 hd4 HTl
          clear hX hd2 hlen
          have m0 := HN.out.cell 0
          have m1 := HN.out.cell 1
          clear BB
          have BB := BB6
          clear BB6 BB5 HB5
          have CC := Lib.hid (show ∀ u, Below W.heap.size W u → Calls Tryd.prog 24 #[.agg #[.int .i64 k1, .slice A1 n1 c1], .agg #[.int .i64 k2, .slice A2 n2 c2], .string ⟨X.toArray⟩, .int .i64 p] u fun e v => e = .returned (.tuple #[.string ⟨(out ++ t).toArray⟩, .agg #[.int .i64 0, .int .i64 0]]) ∧ Below u.heap.size u v from fun u hu =>
            (convK_any k1 A1 n1 c1 q1 k2 A2 n2 c2 q2 X p u ((H1.out.below hu).up hu.size) ((H2.out.below hu).up hu.size) HC1.out HC2.out (by omega) (by omega) HTl.out (HD.out.below hu)).mono fun e v ⟨h1, h2⟩ => ⟨by rw [h1, hd4]; rfl, h2⟩)
          clear hd4
          go_wp2_with fail
          clear m0 m1
          obtain ⟨hwr, hwd, hd0⟩ := HWr.out
          have K := Lib.hid (show ∀ u, Below W.heap.size W u → u.cell? ⟨w.heap.size, 0, none⟩ = some (.int .i64 k1) ∧ u.cell? ⟨w.heap.size, 1, none⟩ = some (.slice A1 n1 c1) ∧ u.cell? ⟨w.heap.size, 2, none⟩ = some (.int .i64 k2) ∧ u.cell? ⟨w.heap.size, 3, none⟩ = some (.slice A2 n2 c2) ∧ u.cell? ⟨w.heap.size, 4, none⟩ = some (.int .i64 p) from fun u hu => ⟨(HB.out.stay hu).cell 0, (HB.out.stay hu).cell 1, (HB.out.stay hu).cell 2, (HB.out.stay hu).cell 3, (HB.out.stay hu).cell 4⟩)
          have hN0 : Hid (W.heap.size ≤ w7.heap.size) := Lib.hid BB.out.size
          have HbD := Lib.hid BB.out.drew
          have HbA := Lib.hid ((BB.out.alloc BB.out.size (.cells #[.int .i64 0, .int .i64 0] 37)).drew)
          go_cut [13, 14] from 35 to 123 (fun s10 s11 wx => s10 = .string ⟨(out ++ t).toArray⟩ ∧ ∃ N : Nat, s11 = .pointer (some ⟨N, 0, none⟩) ∧ Hid (Blk wx N 37 #[.int .i64 0, .int .i64 0]) ∧ Hid (Below w7.heap.size w7 wx) ∧ Hid (Below W.heap.size W wx))
          case first =>
            go_region_held3 (fun u => u.cell? ⟨w.heap.size, 0, none⟩ = some (.int .i64 k1) ∧ u.cell? ⟨w.heap.size, 1, none⟩ = some (.slice A1 n1 c1) ∧ u.cell? ⟨w.heap.size, 2, none⟩ = some (.int .i64 k2) ∧ u.cell? ⟨w.heap.size, 3, none⟩ = some (.slice A2 n2 c2) ∧ u.cell? ⟨w.heap.size, 4, none⟩ = some (.int .i64 p)) (first | exact K.out _ HbD.out | exact K.out _ HbA.out | exact K.out _ hbS | exact K.out _ (hbS.alloc hbS.size _) | exact K.out _ ((hbS.setCell (p := ⟨w7.heap.size, 0, none⟩) hN0.out _).setCell (p := ⟨w7.heap.size, 1, none⟩) hN0.out _)) (first | (go_at_call 24; (first | ((with_reducible refine (CC.out _ HbD.out).mono ?_); rintro e w5 ⟨rfl, hb5⟩; have hbS := HbD.out.trans (hb5.mono HbD.out.size); have hbT := (Below.refl w7.heap.size w7).drew.trans hb5; clear hb5) | ((with_reducible refine (CC.out _ HbA.out).mono ?_); rintro e w5 ⟨rfl, hb5⟩; have hF5 : Blk w5 w7.heap.size 37 #[.int .i64 0, .int .i64 0] := (Blk.new w7 37 #[.int .i64 0, .int .i64 0]).drew.stay hb5; have z0 := hF5.cell 0; have z1 := hF5.cell 1; have f0 := hF5.frozen 0; have f1 := hF5.frozen 1; have hbS := HbA.out.trans (hb5.mono HbA.out.size); have hbT := (below_new w7 (.cells #[.int .i64 0, .int .i64 0] 37)).drew.trans (hb5.mono (below_new w7 (.cells #[.int .i64 0, .int .i64 0] 37)).size); clear hb5))))
            · go_wp2_with fail
              go_meet
              exact ⟨rfl, w5.heap.size, rfl, Lib.hid (Blk.new _ _ _), Lib.hid (hbT.alloc hbT.size _), Lib.hid (hbS.alloc hbS.size _)⟩
            · go_wp2_with fail
              go_meet
              exact ⟨rfl, w7.heap.size, rfl, Lib.hid ((hF5.set_ 0 _).set_ 1 _), Lib.hid ((hbT.setCell (p := ⟨w7.heap.size, 0, none⟩) (Nat.le_refl _) _).setCell (p := ⟨w7.heap.size, 1, none⟩) (Nat.le_refl _) _), Lib.hid ((hbS.setCell (p := ⟨w7.heap.size, 0, none⟩) hN0.out _).setCell (p := ⟨w7.heap.size, 1, none⟩) hN0.out _)⟩
          case rest =>
            obtain ⟨rfl, N2, rfl, HN2, HT2, BB2⟩ := hcut
            clear HbD HbA hN0 K
            have l0 := HN2.out.cell 0
            have l1 := HN2.out.cell 1
            have HS8 := Lib.hid (show SOk wc g b0 (cdOf k1 q1) (cdOf k2 q2) p (l.take (k + 1)).flatten (out ++ t) by rw [Hf.out]; exact HS6.out.stay HT2.out)
            go_wp2
            go_roundw
            case rel => exact ⟨k + 1, out ++ t, by omega, by go_num, by rw [Hf.out], rfl, HS8, BB2⟩
            case measure => simp [intOf]; omega
        · have hfn : (fe != 0) = true := bne_iff_ne.2 hfe
          have HC6 := Lib.hid (hC5.stay HB5.out)
          clear herr hC5 HW hfe HSr
          refine (pending_closed g W6 HC6.out.cell).mono ?_
          rintro x w7 ⟨rfl, rfl⟩
          have m0 := HN.out.cell 0
          have m1 := HN.out.cell 1
          have g4 := (HB.out.stay BB6.out).cell 4
          go_wp2_with fail
          clear m0 m1 g4
          refine (alive_any _ (HD.out.below BB6.out)).mono ?_
          rintro x w9 ⟨rfl, hb9⟩
          go_wp2
          go_ret
          exact ⟨rfl, HL.out.trans ((BB6.out.trans (hb9.mono BB6.out.size)).mono HL.out.size)⟩
      · have h1i : ¬ (k : Int) < (nl : Int) := by omega
        go_wp2_with fail
        refine (alive_any _ (HD.out.below BB.out)).mono ?_
        rintro x w9 ⟨rfl, hb9⟩
        go_wp2
        go_ret
        exact ⟨rfl, HL.out.trans ((BB.out.trans (hb9.mono BB.out.size)).mono HL.out.size)⟩
end Go.Proofs.YtbcbmmgfdobdiaaDoor

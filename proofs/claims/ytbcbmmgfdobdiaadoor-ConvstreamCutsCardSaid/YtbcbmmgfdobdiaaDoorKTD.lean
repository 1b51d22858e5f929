/- The walk of ConvstreamCuts. -/
import Derived.Test.YtbcbmmgfdobdiaaDoorKTB
namespace Go.Proofs.YtbcbmmgfdobdiaaDoor
open Go.RowKit

theorem Tryd.info9s : (Tryd.prog.info? 9).map (fun i => (i.zero, i.size, i.bytes)) = some (some (.string ⟨#[]⟩), 1, 16) := by kernel_rfl
theorem reads_ne {w w' : World} {g n : Nat} {A : Option Addr} {xs : List Value} (h : Reads w w.heap.size 1 A n xs) (hg : w.grownBy w' (some g)) (hne : ∀ ad : Addr, A = some ad → ad.block ≠ g) : Reads w' w'.heap.size 1 A n xs :=
  ⟨h.1, fun hn => by
    obtain ⟨ad, e, hb, hc⟩ := h.2 hn
    refine ⟨ad, e, Nat.lt_of_lt_of_le hb hg.size, fun j u hu => (World.cell?_of_block ?_).trans (hc j u hu)⟩
    rw [block_of_add]
    exact hg.block _ hb (by intro e'; injection e' with e'; exact hne ad e e')⟩
theorem flat_ones (X : List UInt8) : (X.map fun b => [b]).flatten = X := by
  induction X with
  | nil => rfl
  | cons b X ih => simp [ih]
set_option maxRecDepth 100000 in
set_option maxHeartbeats 8000000 in
theorem wk_cuts (k1 : Int) (A1 : Option Addr) (n1 c1 : Nat) (q1 : List Int) (k2 : Int) (A2 : Option Addr) (n2 c2 : Nat) (q2 : List Int) (p : Int) (Al : Option Addr) (nl cl : Nat) (l : List (List UInt8)) (w : World) (h1 : Reads w w.heap.size 1 A1 n1 (q1.map iv)) (h2 : Reads w w.heap.size 1 A2 n2 (q2.map iv)) (hr : Reads w w.heap.size 1 Al nl (l.map sv)) (hl : ∀ s ∈ l, s.length ≤ 140737488355328) (hd : Dig w) :
    Calls Tryd.prog 14 #[.agg #[.int .i64 k1, .slice A1 n1 c1, .int .i64 k2, .slice A2 n2 c2, .int .i64 p], .slice Al nl cl] w fun e w' => e = .returned (.bool true) ∧ Below w.heap.size w w' := by
  have bn := below_new w (.cells #[.int .i64 k1, .slice A1 n1 c1, .int .i64 k2, .slice A2 n2 c2, .int .i64 p] 28)
  have HB := Lib.hid (Blk.new w 28 #[.int .i64 k1, .slice A1 n1 c1, .int .i64 k2, .slice A2 n2 c2, .int .i64 p])
  have H1 := Lib.hid ((h1.below bn).more bn.size)
  have H2 := Lib.hid ((h2.below bn).more bn.size)
  have HR := Lib.hid ((hr.below bn).more bn.size)
  have HD := Lib.hid (hd.below bn)
  have HL := Lib.hid bn
  have Hl := Lib.hid hl
  have Hnl := Lib.hid (show l.length = nl by have := hr.1; simpa using this)
  have hdl := hd.lt
  clear bn h1 h2 hr hd hl
  have g0 := HB.out.cell 0
  have g1 := HB.out.cell 1
  have g2 := HB.out.cell 2
  have g3 := HB.out.cell 3
  have g4 := HB.out.cell 4
  go_enter Tryd.func14, Tryd.ntmps14
  go_wp2_with fail
  clear g0 g1 g2 g3 g4
  obtain ⟨W, hW⟩ : ∃ W, W = (w.alloc (.cells #[.int .i64 k1, .slice A1 n1 c1, .int .i64 k2, .slice A2 n2 c2, .int .i64 p] 28)) := ⟨_, rfl⟩
  have hWs : W.heap.size = w.heap.size + 1 := by rw [hW]; simp
  rw [← hW] at HB H1 H2 HR HD HL ⊢
  clear hW
  have BB := Lib.hid (Below.refl W.heap.size W)
  refine (few8_any k1 A1 n1 c1 k2 A2 n2 c2 p Al nl cl l W (HR.out.up (Nat.le_refl _)) Hl.out).mono ?_
  rintro x w1 ⟨rfl, hb1⟩
  replace BB := Lib.hid (BB.out.trans (hb1.mono BB.out.size))
  clear hb1
  cases hfew : few8 l n1 n2 with
  | false =>
    clear hfew
    have HBc := Lib.hid (HB.out.stay BB.out)
    have g0 := HBc.out.cell 0
    have g1 := HBc.out.cell 1
    have g2 := HBc.out.cell 2
    have g3 := HBc.out.cell 3
    have g4 := HBc.out.cell 4
    go_wp2_with fail
    refine (alive_any _ (HD.out.below BB.out)).mono ?_
    rintro x w9 ⟨rfl, hb9⟩
    go_wp2
    go_ret
    exact ⟨rfl, HL.out.trans ((BB.out.trans (hb9.mono BB.out.size)).mono HL.out.size)⟩
  | true =>
    obtain ⟨hf1, hf2, hf3, hf4⟩ := few8_true hfew
    rw [Hnl.out] at hf1
    clear hfew
    have HBc := Lib.hid (HB.out.stay BB.out)
    have g0 := HBc.out.cell 0
    have g1 := HBc.out.cell 1
    have g2 := HBc.out.cell 2
    have g3 := HBc.out.cell 3
    have g4 := HBc.out.cell 4
    go_wp2_with fail
    clear g0 g1 g2 g3 g4
    clear HBc
    have X1 := Lib.hid ((H1.out.below BB.out).up BB.out.size)
    have X2 := Lib.hid ((H2.out.below BB.out).up BB.out.size)
    obtain ⟨i0, hi, hz0, hz1, hz2⟩ := info_parts Tryd.info9s
    obtain ⟨e1, hC1⟩ := CkE_some k1 q1
    obtain ⟨e2, hC2⟩ := CkE_some k2 q2
    by_cases hgood : e1 = 0 ∧ e2 = 0 ∧ 1 ≤ p ∧ p ≤ 4
    rotate_left
    · have SB := Lib.hid (show ∀ u, Below W.heap.size W u → Calls Tryd.prog 17 #[.agg #[.int .i64 k1, .slice A1 n1 c1, .int .i64 k2, .slice A2 n2 c2, .int .i64 p]] u fun x w' => x = .returned (.tuple #[.pointer none, .bool true]) ∧ Below u.heap.size u w' from fun u hu => start_bad k1 A1 n1 c1 q1 k2 A2 n2 c2 q2 p e1 e2 u ((H1.out.below hu).up hu.size) ((H2.out.below hu).up hu.size) hC1 hC2 hgood)
      clear hC1 hC2 hgood X1 X2
      refine (SB.out w1 BB.out).mono ?_
      rintro x w2 ⟨rfl, hb2⟩
      replace BB := Lib.hid (BB.out.trans (hb2.mono BB.out.size))
      clear hb2
      have HBc := Lib.hid (HB.out.stay BB.out)
      have g0 := HBc.out.cell 0
      have g1 := HBc.out.cell 1
      have g2 := HBc.out.cell 2
      have g3 := HBc.out.cell 3
      have g4 := HBc.out.cell 4
      go_wp2_with fail
      clear g0 g1 g2 g3 g4
      clear HBc
      refine (SB.out w2 BB.out).mono ?_
      rintro x w3 ⟨rfl, hb3⟩
      replace BB := Lib.hid (BB.out.trans (hb3.mono BB.out.size))
      clear hb3
      go_wp2_with fail
      refine (alive_any _ (HD.out.below BB.out)).mono ?_
      rintro x w9 ⟨rfl, hb9⟩
      go_wp2
      go_ret
      exact ⟨rfl, HL.out.trans ((BB.out.trans (hb9.mono BB.out.size)).mono HL.out.size)⟩
    obtain ⟨rfl, rfl, hp1, hp4⟩ := hgood
    have HC1 := Lib.hid hC1
    have HC2 := Lib.hid hC2
    have SG := Lib.hid (show ∀ u, Below W.heap.size W u → Calls Tryd.prog 17 #[.agg #[.int .i64 k1, .slice A1 n1 c1, .int .i64 k2, .slice A2 n2 c2, .int .i64 p]] u fun x w' => ∃ g b0 : Nat, x = .returned (.tuple #[.pointer (some ⟨g, 0, none⟩), .bool true]) ∧ (u.heap.size ≤ b0 ∧ SOk w' g b0 (cdOf k1 q1) (cdOf k2 q2) p [] []) ∧ Below u.heap.size u w' from fun u hu => start_good k1 A1 n1 c1 q1 k2 A2 n2 c2 q2 p u ((H1.out.below hu).up hu.size) ((H2.out.below hu).up hu.size) HC1.out HC2.out hp1 hp4 (HD.out.below hu))
    clear hC1 hC2 X1 X2
    refine (SG.out w1 BB.out).mono ?_
    rintro x w2 ⟨g, b0, rfl, ⟨hb0, hS⟩, hb2⟩
    have hgW : W.heap.size ≤ g := by have := hS.ge; have := BB.out.size; omega
    have hgl2 := hS.lt
    have HS := Lib.hid hS
    clear hS
    replace BB := Lib.hid (BB.out.trans (hb2.mono BB.out.size))
    clear hb2
    have HBc := Lib.hid (HB.out.stay BB.out)
    have g0 := HBc.out.cell 0
    have g1 := HBc.out.cell 1
    have g2 := HBc.out.cell 2
    have g3 := HBc.out.cell 3
    have g4 := HBc.out.cell 4
    go_wp2_with fail
    clear g0 g1 g2 g3 g4
    clear HBc
    refine (SG.out w2 BB.out).mono ?_
    rintro x w3 ⟨g2, b2, rfl, ⟨hb02, hS2⟩, hb3⟩
    have hgb2 : g < b2 := by omega
    have hgg2 := hS2.ge
    have hgl3 := hS2.lt
    have HS2 := Lib.hid hS2
    replace HS := Lib.hid (HS.out.stay hb3)
    have hw23 := hb3.size
    clear hS2 SG
    replace BB := Lib.hid (BB.out.trans (hb3.mono BB.out.size))
    clear hb3
    obtain ⟨X, hX⟩ : ∃ X, X = l.flatten := ⟨_, rfl⟩
    have HX := Lib.hid hX
    have hXl : X.length ≤ 60 := by rw [hX]; exact hf2
    clear hX
    go_wp2_with fail
    refine (join_any Al nl cl l w3 ((HR.out.below BB.out).up BB.out.size) (by omega) (by omega)).mono ?_
    rintro x w4 ⟨rfl, rfl⟩
    rw [← HX.out]
    go_wp2_with fail
    go_loopw [9, 11] (fun o i wr => ∃ (k : Nat), k ≤ X.length ∧ i = .int .i64 (k : Int) ∧ wr.ownsRow w4.heap.size 9 1 o k (((X.take k).map fun b => [b]).map sv) ∧ Hid (Below w4.heap.size w4 wr)) (fun _ i _ => X.length - (intOf i).toNat)
    case atStart => exact ⟨0, by omega, rfl, by simpa using World.ownsRow_nil _ _ _ _, Lib.hid (Below.refl _ _)⟩
    case round =>
      obtain ⟨k, hk, rfl, ho, Hb⟩ := hrel
      by_cases h1 : k < X.length
      · have h1i : (k : Int) < (X.length : Int) := by omega
        have hx1 : (⟨X.toArray⟩ : ByteArray).extract k (k + 1) = ⟨[X[k]].toArray⟩ := by
          rw [ext_part, List.drop_eq_getElem_cons h1]; rfl
        have Hs := Lib.hid (show ((X.take (k + 1)).map fun b => [b]).map sv = ((X.take k).map fun b => [b]).map sv ++ [.string ⟨[X[k]].toArray⟩] by rw [List.take_succ_eq_append_getElem h1, List.map_append, List.map_append]; rfl)
        have hki : (k : Int) + 1 ≤ (X.length : Int) := by omega
        have hsz := Hb.out.size
        generalize X[k] = y at hx1 Hs
        go_wp2_with (at_builtin; go_must (refine wpList_app1 rfl (.tmp 60) (.tmp 66) 29 rfl Tryd.underlying29 hi hz0 hz1 hz2 rfl (by omega) wr u9 _ _ rfl ho _ rfl rfl (by omega) hsz ?_); intro v3 w5 ho3 hB3 _)
        rw [← Hs.out] at ho3
        go_roundw
        case rel => exact ⟨k + 1, by omega, by go_num, ho3, Lib.hid (Hb.out.trans hB3)⟩
        case measure => simp [intOf]; omega
      · obtain rfl : k = X.length := by omega
        have h1i : ¬ ((X.length : Nat) : Int) < (X.length : Int) := by omega
        rw [List.take_length] at ho
        replace HS := Lib.hid (HS.out.stay Hb.out)
        replace HS2 := Lib.hid (HS2.out.stay Hb.out)
        replace BB := Lib.hid (BB.out.trans (Hb.out.mono BB.out.size))
        obtain ⟨Ay, cy, rfl, _, hry⟩ := val_of_own ho
        have hlow : ∀ ad : Addr, Ay = some ad → w4.heap.size ≤ ad.block := by
          intro ad had
          subst had
          rcases Nat.eq_zero_or_pos X.length with h0 | h0
          · rcases ho.2 with ⟨hv, _⟩ | ⟨gg, cap, cur, hv, hge, _⟩
            · cases hv
            · injection hv with hv; injection hv with hv; subst hv; exact hge
          · obtain ⟨gg, cap, hv, hge, _⟩ := ho.form h0
            injection hv with hv
            injection hv with hv
            subst hv; exact hge
        have HRY := Lib.hid (show ∀ g' : Nat, g' < w4.heap.size → ∀ (v u : World), Reads v v.heap.size 1 Ay X.length ((X.map fun b => [b]).map sv) → v.grownBy u (some g') → Reads u u.heap.size 1 Ay X.length ((X.map fun b => [b]).map sv) from fun g' hg' v u hrd hg => reads_ne hrd hg (fun ad e => by have := hlow ad e; omega))
        have HRy := Lib.hid hry
        have HXf := Lib.hid (show (X.map fun b => [b]).flatten = X from flat_ones X)
        have hw4r := Hb.out.size
        clear ho hry hlow Hb
        have HRr := Lib.hid (show ∀ u, wr.grownBy u (some g) → Reads u u.heap.size 1 Al nl (l.map sv) from fun u hu => ((HR.out.below BB.out).grown hu BB.out.size (fun g' e => by injection e with e; omega)).up (Nat.le_trans BB.out.size hu.size))
        go_wp2_with fail
        refine (run_any g b0 (cdOf k1 q1) (cdOf k2 q2) p Al nl cl l wr HS.out HRr.out hf2 (by omega)).mono ?_
        rintro x w5 ⟨a, fe, fv, rfl, hg5, _, hR5, hal⟩
        have HR5 := Lib.hid hR5
        have bn5 := below_new w5 (.cells #[.int .i64 fe, .int .i64 fv] 37)
        have HN1 := Lib.hid (Blk.new w5 37 #[.int .i64 fe, .int .i64 fv])
        replace BB := Lib.hid ((BB.out.trans (below_of_grown hg5 hgW BB.out.size)).trans (bn5.mono (Nat.le_trans BB.out.size hg5.size)))
        replace HS2 := Lib.hid ((HS2.out.other hg5 hgb2 (by omega)).stay bn5)
        replace HRy := Lib.hid ((HRY.out g (by omega) wr w5 HRy.out hg5).stay bn5)
        have hw5 := hg5.size
        clear hg5 hR5 bn5 HS HRr
        go_wp2_with fail
        obtain ⟨W5, hW5⟩ : ∃ W, W = w5.alloc (.cells #[.int .i64 fe, .int .i64 fv] 37) := ⟨_, rfl⟩
        have hW5s : W5.heap.size = w5.heap.size + 1 := by rw [hW5]; simp
        rw [← hW5] at HN1 BB HS2 HRy ⊢
        clear hW5
        refine (run_any g2 b2 (cdOf k1 q1) (cdOf k2 q2) p Ay X.length cy (X.map fun b => [b]) W5 HS2.out (fun u hu => HRY.out g2 (by omega) W5 u HRy.out hu) (by rw [HXf.out]; omega) (by omega)).mono ?_
        rintro x w6 ⟨a', fe', fv', rfl, hg6, _, hR6, hal'⟩
        rw [HXf.out] at hR6
        have hg2W : W.heap.size ≤ g2 := by omega
        have bn6 := below_new w6 (.cells #[.int .i64 fe', .int .i64 fv'] 37)
        have HN2 := Lib.hid (Blk.new w6 37 #[.int .i64 fe', .int .i64 fv'])
        replace BB := Lib.hid ((BB.out.trans (below_of_grown hg6 hg2W BB.out.size)).trans (bn6.mono (Nat.le_trans BB.out.size hg6.size)))
        have hN1 := (HN1.out.grownS hg6 (by omega)).stay bn6
        have hR5 := HR5.out
        rw [← HX.out] at hR5
        have m0 := hN1.cell 0
        have m1 := hN1.cell 1
        have l0 := HN2.out.cell 0
        have l1 := HN2.out.cell 1
        have hsame : fe = fe' ∧ fv = fv' ∧ (fe = 0 → a = a') := by
          rcases hR5 with ⟨rfl, rfl, c1⟩ | ⟨c0, _, ⟨i, rfl, c1⟩, _⟩ <;> rcases hR6 with ⟨rfl, rfl, c2⟩ | ⟨c3, _, ⟨j, rfl, c2⟩, _⟩
          · rw [c1] at c2; injection c2 with c2; exact ⟨rfl, rfl, fun _ => c2⟩
          · rw [c1] at c2; cases c2
          · rw [c1] at c2; cases c2
          · rw [c1] at c2; injection c2 with c2; injection c2 with c2 c4; subst c2 c4; exact ⟨rfl, rfl, fun h => absurd h c0⟩
        clear hR5 hR6 HR5 hN1 bn6 hg6
        obtain ⟨rfl, rfl, hsame⟩ := hsame
        by_cases hf0 : fe = 0
        · obtain rfl := hsame hf0
          subst hf0
          go_wp2_with fail
          clear m0 m1 l0 l1
          refine (alive_any _ (HD.out.below BB.out)).mono ?_
          rintro x w9 ⟨rfl, hb9⟩
          go_wp2
          go_ret
          exact ⟨rfl, HL.out.trans ((BB.out.trans (hb9.mono BB.out.size)).mono HL.out.size)⟩
        · have hfn : (fe != 0) = true := bne_iff_ne.2 hf0
          clear hf0 hsame
          go_wp2_with fail
          clear m0 m1 l0 l1
          refine (alive_any _ (HD.out.below BB.out)).mono ?_
          rintro x w9 ⟨rfl, hb9⟩
          go_wp2
          go_ret
          exact ⟨rfl, HL.out.trans ((BB.out.trans (hb9.mono BB.out.size)).mono HL.out.size)⟩
end Go.Proofs.YtbcbmmgfdobdiaaDoor

/- convert.Convert with Fail. -/
import Derived.Test.YtbcbmmgfdobdiaaDoorK7
namespace Go.Proofs.YtbcbmmgfdobdiaaDoor
open Go.RowKit

set_option maxRecDepth 100000 in
set_option maxHeartbeats 4000000 in
theorem convF_good (k1 : Int) (A1 : Option Addr) (n1 c1 : Nat) (q1 : List Int) (k2 : Int) (A2 : Option Addr) (n2 c2 : Nat) (q2 : List Int) (s : List UInt8) (w : World) (h1 : Reads w w.heap.size 1 A1 n1 (q1.map iv)) (h2 : Reads w w.heap.size 1 A2 n2 (q2.map iv)) (hC1 : CkE k1 q1 0) (hC2 : CkE k2 q2 0) (hs : s.length ≤ 1000000) (hdg : Dig w) :
    Calls Tryd.prog 24 #[.agg #[.int .i64 k1, .slice A1 n1 c1], .agg #[.int .i64 k2, .slice A2 n2 c2], .string ⟨s.toArray⟩, .int .i64 1] w fun x w' => x = .returned (outT (strictR (cdOf k1 q1) (cdOf k2 q2) s)) ∧ Below w.heap.size w w' := by
  have hb0 : Below w.heap.size w (((w.alloc (.cells #[.int .i64 k1, .slice A1 n1 c1] 26)).alloc (.cells #[.int .i64 k2, .slice A2 n2 c2] 26)).alloc (.cells #[.int .i64 0, .int .i64 0] 37)) := (((Below.refl _ _).alloc (Nat.le_refl _) _).alloc (by simp) _).alloc (by simp; omega) _
  have p1 : Blk (((w.alloc (.cells #[.int .i64 k1, .slice A1 n1 c1] 26)).alloc (.cells #[.int .i64 k2, .slice A2 n2 c2] 26)).alloc (.cells #[.int .i64 0, .int .i64 0] 37)) w.heap.size 26 #[.int .i64 k1, .slice A1 n1 c1] := ((Blk.new w _ _).alloc _).alloc _
  have p2 : Blk (((w.alloc (.cells #[.int .i64 k1, .slice A1 n1 c1] 26)).alloc (.cells #[.int .i64 k2, .slice A2 n2 c2] 26)).alloc (.cells #[.int .i64 0, .int .i64 0] 37)) (w.heap.size + 1) 26 #[.int .i64 k2, .slice A2 n2 c2] := by
    have := (Blk.new (w.alloc (.cells #[.int .i64 k1, .slice A1 n1 c1] 26)) 26 #[.int .i64 k2, .slice A2 n2 c2]).alloc (.cells #[.int .i64 0, .int .i64 0] 37)
    simpa using this
  have p3 : Blk (((w.alloc (.cells #[.int .i64 k1, .slice A1 n1 c1] 26)).alloc (.cells #[.int .i64 k2, .slice A2 n2 c2] 26)).alloc (.cells #[.int .i64 0, .int .i64 0] 37)) (w.heap.size + 1 + 1) 37 #[.int .i64 0, .int .i64 0] := by
    have := Blk.new ((w.alloc (.cells #[.int .i64 k1, .slice A1 n1 c1] 26)).alloc (.cells #[.int .i64 k2, .slice A2 n2 c2] 26)) 37 #[.int .i64 0, .int .i64 0]
    simpa using this
  have H1 := Lib.hid (h1.stay hb0)
  have H2 := Lib.hid (h2.stay hb0)
  have HC1 := Lib.hid hC1
  have HC2 := Lib.hid hC2
  have g0 := p1.cell 0
  have g1 := p1.cell 1
  have g2 := p2.cell 0
  have g3 := p2.cell 1
  have P1 := Lib.hid p1
  have P2 := Lib.hid p2
  have P3 := Lib.hid p3
  have B0 := Lib.hid hb0
  have HD := Lib.hid (hdg.below hb0)
  clear hb0 p1 p2 p3 h1 h2 hC1 hC2 hdg
  go_enter Tryd.func24, Tryd.ntmps24
  go_wp2_with fail
  clear g0 g1 g2 g3
  obtain ⟨W, hW⟩ : ∃ W, W = (((w.alloc (.cells #[.int .i64 k1, .slice A1 n1 c1] 26)).alloc (.cells #[.int .i64 k2, .slice A2 n2 c2] 26)).alloc (.cells #[.int .i64 0, .int .i64 0] 37)) := ⟨_, rfl⟩
  rw [← hW] at H1 H2 P1 P2 P3 B0 HD ⊢
  clear hW
  refine (open_good k1 A1 n1 c1 q1 W H1.out HC1.out).mono ?_
  rintro x w1 ⟨⟨v, rfl, hv⟩, hb1⟩
  have Hv := Lib.hid hv
  have HD1 := Lib.hid (HD.out.below hb1)
  have Q1 := Lib.hid (P1.out.stay hb1)
  have Q2 := Lib.hid (P2.out.stay hb1)
  have Q3 := Lib.hid (P3.out.stay hb1)
  have B1 := Lib.hid (B0.out.trans (hb1.mono B0.out.size))
  have G2 := Lib.hid (H2.out.stay hb1)
  clear P1 P2 P3 B0 H2
  have P1 := Q1
  have P2 := Q2
  have P3 := Q3
  have B0 := B1
  have H2 := G2
  clear Q1 Q2 Q3 B1 G2
  clear hv HD H1
  have g2 := P2.out.cell 0
  have g3 := P2.out.cell 1
  have hsz : w.heap.size + 1 + 1 < w1.heap.size := P3.out.lt
  go_wp2_with fail
  clear g2 g3
  refine (open_good k2 A2 n2 c2 q2 w1 H2.out HC2.out).mono ?_
  rintro x w2 ⟨⟨u, rfl, hu⟩, hb2⟩
  have Hv2 := Lib.hid (Hv.out.stay hb2)
  have Hu := Lib.hid hu
  have HD2 := Lib.hid (HD1.out.below hb2)
  have Q1 := Lib.hid (P1.out.stay hb2)
  have Q2 := Lib.hid (P2.out.stay hb2)
  have Q3 := Lib.hid (P3.out.stay hb2)
  have B1 := Lib.hid (B0.out.trans (hb2.mono B0.out.size))
  have G2 := Lib.hid (H2.out.stay hb2)
  clear P1 P2 P3 B0 H2
  have P1 := Q1
  have P2 := Q2
  have P3 := Q3
  have B0 := B1
  have H2 := G2
  clear Q1 Q2 Q3 B1 G2
  clear hu Hv HD1
  go_wp2_with fail
  refine (strict_any (cdOf k1 q1) (cdOf k2 q2) v u s w2 Hv2.out Hu.out (good_cd HC1.out) (good_cd HC2.out) hs HD2.out).mono ?_
  rintro x w3 ⟨rfl, hb3⟩
  have hF3 := P3.out.stay hb3
  have b3 := B0.out.trans (hb3.mono B0.out.size)
  clear hb3 P1 P2 P3 B0 H2
  cases hr : strictR (cdOf k1 q1) (cdOf k2 q2) s with
  | ok o =>
    have Hr := Lib.hid hr
    clear hr
    unfold outT
    simp only
    have hF := hF3
    have z0 := hF.cell 0
    have z1 := hF.cell 1
    have f0 := hF.frozen 0
    have f1 := hF.frozen 1
    have hF2 := (hF.set_ 0 (.int .i64 0)).set_ 1 (.int .i64 0)
    have bF := (b3.setCell (p := ⟨w.heap.size + 1 + 1, 0, none⟩) (by simp; omega) (.int .i64 0)).setCell (p := ⟨w.heap.size + 1 + 1, 1, none⟩) (by simp; omega) (.int .i64 0)
    have D := Lib.hid (And.intro (hF2.cell 0) (hF2.cell 1))
    have BF := Lib.hid bF
    clear bF hF2
    go_wp2
    obtain ⟨d0, d1⟩ := D.out
    have bF := BF.out
    clear D BF z0 z1 f0 f1 hF
    generalize World.setCell (World.setCell _ ⟨w.heap.size + 1 + 1, 0, none⟩ (.int .i64 0)) ⟨w.heap.size + 1 + 1, 1, none⟩ (.int .i64 0) = V at d0 d1 bF ⊢
    exact bodyPost_ret (v := .tuple #[.string ⟨o.toArray⟩, .agg #[.int .i64 0, .int .i64 0]]) (by simp [results, Tryd.results24, go_sem] at d0 d1 ⊢; simp [d0, d1]) rfl ⟨by rw [Hr.out]; rfl, bF⟩
  | error p =>
    obtain ⟨e, i⟩ := p
    have Hr := Lib.hid hr
    clear hr
    unfold outT
    simp only
    have hF := hF3
    have z0 := hF.cell 0
    have z1 := hF.cell 1
    have f0 := hF.frozen 0
    have f1 := hF.frozen 1
    have hF2 := (hF.set_ 0 (.int .i64 e)).set_ 1 (.int .i64 (i : Int))
    have bF := (b3.setCell (p := ⟨w.heap.size + 1 + 1, 0, none⟩) (by simp; omega) (.int .i64 e)).setCell (p := ⟨w.heap.size + 1 + 1, 1, none⟩) (by simp; omega) (.int .i64 (i : Int))
    have D := Lib.hid (And.intro (hF2.cell 0) (hF2.cell 1))
    have BF := Lib.hid bF
    clear bF hF2
    go_wp2
    obtain ⟨d0, d1⟩ := D.out
    have bF := BF.out
    clear D BF z0 z1 f0 f1 hF
    generalize World.setCell (World.setCell _ ⟨w.heap.size + 1 + 1, 0, none⟩ (.int .i64 e)) ⟨w.heap.size + 1 + 1, 1, none⟩ (.int .i64 (i : Int)) = V at d0 d1 bF ⊢
    exact bodyPost_ret (v := .tuple #[.string ⟨([] : List UInt8).toArray⟩, .agg #[.int .i64 e, .int .i64 (i : Int)]]) (by simp [results, Tryd.results24, go_sem] at d0 d1 ⊢; simp [d0, d1]) rfl ⟨by rw [Hr.out]; rfl, bF⟩

set_option maxRecDepth 100000 in
set_option maxHeartbeats 4000000 in
theorem conv_bad (k1 : Int) (A1 : Option Addr) (n1 c1 : Nat) (q1 : List Int) (k2 : Int) (A2 : Option Addr) (n2 c2 : Nat) (q2 : List Int) (e1 e2 p : Int) (s : List UInt8) (w : World) (h1 : Reads w w.heap.size 1 A1 n1 (q1.map iv)) (h2 : Reads w w.heap.size 1 A2 n2 (q2.map iv)) (hC1 : CkE k1 q1 e1) (hC2 : CkE k2 q2 e2) (he : e1 ≠ 0 ∨ e2 ≠ 0) :
    Calls Tryd.prog 24 #[.agg #[.int .i64 k1, .slice A1 n1 c1], .agg #[.int .i64 k2, .slice A2 n2 c2], .string ⟨s.toArray⟩, .int .i64 p] w fun x w' => x = .returned (.tuple #[.string ⟨([] : List UInt8).toArray⟩, .agg #[.int .i64 11, .int .i64 0]]) ∧ Below w.heap.size w w' := by
  have hb0 : Below w.heap.size w (((w.alloc (.cells #[.int .i64 k1, .slice A1 n1 c1] 26)).alloc (.cells #[.int .i64 k2, .slice A2 n2 c2] 26)).alloc (.cells #[.int .i64 0, .int .i64 0] 37)) := (((Below.refl _ _).alloc (Nat.le_refl _) _).alloc (by simp) _).alloc (by simp; omega) _
  have p1 : Blk (((w.alloc (.cells #[.int .i64 k1, .slice A1 n1 c1] 26)).alloc (.cells #[.int .i64 k2, .slice A2 n2 c2] 26)).alloc (.cells #[.int .i64 0, .int .i64 0] 37)) w.heap.size 26 #[.int .i64 k1, .slice A1 n1 c1] := ((Blk.new w _ _).alloc _).alloc _
  have p2 : Blk (((w.alloc (.cells #[.int .i64 k1, .slice A1 n1 c1] 26)).alloc (.cells #[.int .i64 k2, .slice A2 n2 c2] 26)).alloc (.cells #[.int .i64 0, .int .i64 0] 37)) (w.heap.size + 1) 26 #[.int .i64 k2, .slice A2 n2 c2] := by
    have := (Blk.new (w.alloc (.cells #[.int .i64 k1, .slice A1 n1 c1] 26)) 26 #[.int .i64 k2, .slice A2 n2 c2]).alloc (.cells #[.int .i64 0, .int .i64 0] 37)
    simpa using this
  have p3 : Blk (((w.alloc (.cells #[.int .i64 k1, .slice A1 n1 c1] 26)).alloc (.cells #[.int .i64 k2, .slice A2 n2 c2] 26)).alloc (.cells #[.int .i64 0, .int .i64 0] 37)) (w.heap.size + 1 + 1) 37 #[.int .i64 0, .int .i64 0] := by
    have := Blk.new ((w.alloc (.cells #[.int .i64 k1, .slice A1 n1 c1] 26)).alloc (.cells #[.int .i64 k2, .slice A2 n2 c2] 26)) 37 #[.int .i64 0, .int .i64 0]
    simpa using this
  have H1 := Lib.hid (h1.stay hb0)
  have H2 := Lib.hid (h2.stay hb0)
  have HC1 := Lib.hid hC1
  have HC2 := Lib.hid hC2
  have g0 := p1.cell 0
  have g1 := p1.cell 1
  have g2 := p2.cell 0
  have g3 := p2.cell 1
  have P1 := Lib.hid p1
  have P2 := Lib.hid p2
  have P3 := Lib.hid p3
  have B0 := Lib.hid hb0
  have O1 : Hid (∀ W : World, Reads W W.heap.size 1 A1 n1 (q1.map iv) → Calls Tryd.prog 44 #[.agg #[.int .i64 k1, .slice A1 n1 c1]] W fun x w' => (∃ v, x = .returned (.tuple #[v, .bool (decide (e1 = 0))])) ∧ Below W.heap.size W w') := fun W hr => by
    by_cases h0 : e1 = 0
    · subst h0; exact (open_good k1 A1 n1 c1 q1 W hr hC1).mono fun x w' ⟨⟨v, hx, _⟩, hb⟩ => ⟨⟨v, by rw [hx]; rfl⟩, hb⟩
    · exact (open_bad k1 A1 n1 c1 q1 e1 W hr hC1 h0).mono fun x w' ⟨hx, hb⟩ => ⟨⟨.iface 103 (.agg #[]), by rw [hx, decide_eq_false h0]⟩, hb⟩
  have O2 : Hid (∀ W : World, Reads W W.heap.size 1 A2 n2 (q2.map iv) → Calls Tryd.prog 44 #[.agg #[.int .i64 k2, .slice A2 n2 c2]] W fun x w' => (∃ v, x = .returned (.tuple #[v, .bool (decide (e2 = 0))])) ∧ Below W.heap.size W w') := fun W hr => by
    by_cases h0 : e2 = 0
    · subst h0; exact (open_good k2 A2 n2 c2 q2 W hr hC2).mono fun x w' ⟨⟨v, hx, _⟩, hb⟩ => ⟨⟨v, by rw [hx]; rfl⟩, hb⟩
    · exact (open_bad k2 A2 n2 c2 q2 e2 W hr hC2 h0).mono fun x w' ⟨hx, hb⟩ => ⟨⟨.iface 103 (.agg #[]), by rw [hx, decide_eq_false h0]⟩, hb⟩
  have hdd : (decide (e1 = 0) = true ∧ decide (e2 = 0) = false) ∨ decide (e1 = 0) = false := by
    by_cases h0 : e1 = 0
    · left; exact ⟨decide_eq_true h0, decide_eq_false (by rcases he with h | h; exact absurd h0 h; exact h)⟩
    · right; exact decide_eq_false h0
  clear hb0 p1 p2 p3 h1 h2 hC1 hC2 HC1 HC2 he
  generalize decide (e1 = 0) = d1 at O1 hdd
  generalize decide (e2 = 0) = d2 at O2 hdd
  go_enter Tryd.func24, Tryd.ntmps24
  go_wp2_with fail
  clear g0 g1 g2 g3
  obtain ⟨W, hW⟩ : ∃ W, W = (((w.alloc (.cells #[.int .i64 k1, .slice A1 n1 c1] 26)).alloc (.cells #[.int .i64 k2, .slice A2 n2 c2] 26)).alloc (.cells #[.int .i64 0, .int .i64 0] 37)) := ⟨_, rfl⟩
  rw [← hW] at H1 H2 P1 P2 P3 B0 ⊢
  clear hW
  refine (O1.out W H1.out).mono ?_
  rintro x w1 ⟨⟨v, rfl⟩, hb1⟩
  have Q1 := Lib.hid (P1.out.stay hb1)
  have Q2 := Lib.hid (P2.out.stay hb1)
  have Q3 := Lib.hid (P3.out.stay hb1)
  have B1 := Lib.hid (B0.out.trans (hb1.mono B0.out.size))
  have G2 := Lib.hid (H2.out.stay hb1)
  clear P1 P2 P3 B0 H2
  have P1 := Q1
  have P2 := Q2
  have P3 := Q3
  have B0 := B1
  have H2 := G2
  clear Q1 Q2 Q3 B1 G2
  clear H1
  have g2 := P2.out.cell 0
  have g3 := P2.out.cell 1
  have hsz : w.heap.size + 1 + 1 < w1.heap.size := P3.out.lt
  go_wp2_with fail
  clear g2 g3
  refine (O2.out w1 H2.out).mono ?_
  rintro x w2 ⟨⟨u, rfl⟩, hb2⟩
  have Q1 := Lib.hid (P1.out.stay hb2)
  have Q2 := Lib.hid (P2.out.stay hb2)
  have Q3 := Lib.hid (P3.out.stay hb2)
  have B1 := Lib.hid (B0.out.trans (hb2.mono B0.out.size))
  have G2 := Lib.hid (H2.out.stay hb2)
  clear P1 P2 P3 B0 H2
  have P1 := Q1
  have P2 := Q2
  have P3 := Q3
  have B0 := B1
  have H2 := G2
  clear Q1 Q2 Q3 B1 G2
  have hF3 := P3.out
  have b3 := B0.out
  clear P1 P2 P3 B0 H2
  rcases hdd with ⟨rfl, rfl⟩ | rfl
  · have hF := hF3
    have z0 := hF.cell 0
    have z1 := hF.cell 1
    have f0 := hF.frozen 0
    have f1 := hF.frozen 1
    have hF2 := (hF.set_ 0 (.int .i64 11)).set_ 1 (.int .i64 0)
    have bF := (b3.setCell (p := ⟨w.heap.size + 1 + 1, 0, none⟩) (by simp; omega) (.int .i64 11)).setCell (p := ⟨w.heap.size + 1 + 1, 1, none⟩) (by simp; omega) (.int .i64 0)
    have D := Lib.hid (And.intro (hF2.cell 0) (hF2.cell 1))
    have BF := Lib.hid bF
    clear bF hF2
    go_wp2
    obtain ⟨d0, d1⟩ := D.out
    have bF := BF.out
    clear D BF z0 z1 f0 f1 hF
    generalize World.setCell (World.setCell _ ⟨w.heap.size + 1 + 1, 0, none⟩ (.int .i64 11)) ⟨w.heap.size + 1 + 1, 1, none⟩ (.int .i64 0) = V at d0 d1 bF ⊢
    exact bodyPost_ret (v := .tuple #[.string ⟨([] : List UInt8).toArray⟩, .agg #[.int .i64 11, .int .i64 0]]) (by simp [results, Tryd.results24, go_sem] at d0 d1 ⊢; simp [d0, d1]) rfl ⟨rfl, bF⟩
  · have hF := hF3
    have z0 := hF.cell 0
    have z1 := hF.cell 1
    have f0 := hF.frozen 0
    have f1 := hF.frozen 1
    have hF2 := (hF.set_ 0 (.int .i64 11)).set_ 1 (.int .i64 0)
    have bF := (b3.setCell (p := ⟨w.heap.size + 1 + 1, 0, none⟩) (by simp; omega) (.int .i64 11)).setCell (p := ⟨w.heap.size + 1 + 1, 1, none⟩) (by simp; omega) (.int .i64 0)
    have D := Lib.hid (And.intro (hF2.cell 0) (hF2.cell 1))
    have BF := Lib.hid bF
    clear bF hF2
    go_wp2
    obtain ⟨d0, d1⟩ := D.out
    have bF := BF.out
    clear D BF z0 z1 f0 f1 hF
    generalize World.setCell (World.setCell _ ⟨w.heap.size + 1 + 1, 0, none⟩ (.int .i64 11)) ⟨w.heap.size + 1 + 1, 1, none⟩ (.int .i64 0) = V at d0 d1 bF ⊢
    exact bodyPost_ret (v := .tuple #[.string ⟨([] : List UInt8).toArray⟩, .agg #[.int .i64 11, .int .i64 0]]) (by simp [results, Tryd.results24, go_sem] at d0 d1 ⊢; simp [d0, d1]) rfl ⟨rfl, bF⟩
end Go.Proofs.YtbcbmmgfdobdiaaDoor

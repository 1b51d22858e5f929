/- convert.Convert, every policy, encodings without an error. -/
import Derived.Test.YtbcbmmgfdobdiaaDoorKG
namespace Go.Proofs.YtbcbmmgfdobdiaaDoor
open Go.RowKit

set_option maxRecDepth 100000 in
set_option maxHeartbeats 4000000 in
theorem convP_good (k1 : Int) (A1 : Option Addr) (n1 c1 : Nat) (q1 : List Int) (k2 : Int) (A2 : Option Addr) (n2 c2 : Nat) (q2 : List Int) (s : List UInt8) (p : Int) (w : World) (h1 : Reads w w.heap.size 1 A1 n1 (q1.map iv)) (h2 : Reads w w.heap.size 1 A2 n2 (q2.map iv)) (hC1 : CkE k1 q1 0) (hC2 : CkE k2 q2 0) (hp2 : 2 ≤ p) (hp4 : p ≤ 4) (hs : s.length ≤ 100000) (hdg : Dig w) :
    Calls Tryd.prog 24 #[.agg #[.int .i64 k1, .slice A1 n1 c1], .agg #[.int .i64 k2, .slice A2 n2 c2], .string ⟨s.toArray⟩, .int .i64 p] w fun x w' => x = .returned (.tuple #[.string ⟨(encF (cdOf k2 q2) p (decF (cdOf k1 q1) p s)).toArray⟩, .agg #[.int .i64 0, .int .i64 0]]) ∧ Below w.heap.size w w' := by
  have hb0 : Below w.heap.size w (((w.alloc (.cells #[.int .i64 k1, .slice A1 n1 c1] 26)).alloc (.cells #[.int .i64 k2, .slice A2 n2 c2] 26)).alloc (.cells #[.int .i64 0, .int .i64 0] 37)) := (((Below.refl _ _).alloc (Nat.le_refl _) _).alloc (by simp) _).alloc (by simp; omega) _
  have p1 : Blk (((w.alloc (.cells #[.int .i64 k1, .slice A1 n1 c1] 26)).alloc (.cells #[.int .i64 k2, .slice A2 n2 c2] 26)).alloc (.cells #[.int .i64 0, .int .i64 0] 37)) w.heap.size 26 #[.int .i64 k1, .slice A1 n1 c1] := ((Blk.new w _ _).alloc _).alloc _
  have p2 : Blk (((w.alloc (.cells #[.int .i64 k1, .slice A1 n1 c1] 26)).alloc (.cells #[.int .i64 k2, .slice A2 n2 c2] 26)).alloc (.cells #[.int .i64 0, .int .i64 0] 37)) (w.heap.size + 1) 26 #[.int .i64 k2, .slice A2 n2 c2] := by
    have := (Blk.new (w.alloc (.cells #[.int .i64 k1, .slice A1 n1 c1] 26)) 26 #[.int .i64 k2, .slice A2 n2 c2]).alloc (.cells #[.int .i64 0, .int .i64 0] 37)
    simpa using this
  have p3 : Blk (((w.alloc (.cells #[.int .i64 k1, .slice A1 n1 c1] 26)).alloc (.cells #[.int .i64 k2, .slice A2 n2 c2] 26)).alloc (.cells #[.int .i64 0, .int .i64 0] 37)) (w.heap.size + 1 + 1) 37 #[.int .i64 0, .int .i64 0] := by
    have := Blk.new ((w.alloc (.cells #[.int .i64 k1, .slice A1 n1 c1] 26)).alloc (.cells #[.int .i64 k2, .slice A2 n2 c2] 26)) 37 #[.int .i64 0, .int .i64 0]
    simpa using this
  have H1 := Lib.hid (h1.stay hb0)
  have H2 := Lib.hid (h2.stay hb0)
  have HC1 := Lib.hid hC1
  have HC2 := Lib.hid hC2
  have g0 := p1.cell 0
  have g1 := p1.cell 1
  have g2 := p2.cell 0
  have g3 := p2.cell 1
  have P1 := Lib.hid p1
  have P2 := Lib.hid p2
  have P3 := Lib.hid p3
  have B0 := Lib.hid hb0
  have HD := Lib.hid (hdg.below hb0)
  have hp1n : (p == 1) = false := by simp; omega
  have Hdl := Lib.hid (decK_len (cdOf k1 q1) p s.length 0 s _ (Nat.le_refl _) (decF_eq (by omega) s))
  have Hds := Lib.hid (decK_scal (cdOf k1 q1) (good_cd hC1) p s.length 0 s _ (decF_eq (by omega) s))
  clear hb0 p1 p2 p3 h1 h2 hC1 hC2 hdg
  go_enter Tryd.func24, Tryd.ntmps24
  go_wp2_with fail
  clear g0 g1 g2 g3
  obtain ⟨W, hW⟩ : ∃ W, W = (((w.alloc (.cells #[.int .i64 k1, .slice A1 n1 c1] 26)).alloc (.cells #[.int .i64 k2, .slice A2 n2 c2] 26)).alloc (.cells #[.int .i64 0, .int .i64 0] 37)) := ⟨_, rfl⟩
  rw [← hW] at H1 H2 P1 P2 P3 B0 HD ⊢
  clear hW
  refine (open_good k1 A1 n1 c1 q1 W H1.out HC1.out).mono ?_
  rintro x w1 ⟨⟨v, rfl, hv⟩, hb1⟩
  have HD1 := Lib.hid (HD.out.below hb1)
  have G1 := Lib.hid (H1.out.stay hb1)
  have Q1 := Lib.hid (P1.out.stay hb1)
  have Q2 := Lib.hid (P2.out.stay hb1)
  have Q3 := Lib.hid (P3.out.stay hb1)
  have B1 := Lib.hid (B0.out.trans (hb1.mono B0.out.size))
  have G2 := Lib.hid (H2.out.stay hb1)
  clear P1 P2 P3 B0 H2
  have P1 := Q1
  have P2 := Q2
  have P3 := Q3
  have B0 := B1
  have H2 := G2
  clear Q1 Q2 Q3 B1 G2
  clear hv HD H1
  have g2 := P2.out.cell 0
  have g3 := P2.out.cell 1
  have hsz : w.heap.size + 1 + 1 < w1.heap.size := P3.out.lt
  go_wp2_with fail
  clear g2 g3
  refine (open_good k2 A2 n2 c2 q2 w1 H2.out HC2.out).mono ?_
  rintro x w2 ⟨⟨u, rfl, hu⟩, hb2⟩
  have HD2 := Lib.hid (HD1.out.below hb2)
  have H1 := Lib.hid (G1.out.stay hb2)
  have Q1 := Lib.hid (P1.out.stay hb2)
  have Q2 := Lib.hid (P2.out.stay hb2)
  have Q3 := Lib.hid (P3.out.stay hb2)
  have B1 := Lib.hid (B0.out.trans (hb2.mono B0.out.size))
  have G2 := Lib.hid (H2.out.stay hb2)
  clear P1 P2 P3 B0 H2
  have P1 := Q1
  have P2 := Q2
  have P3 := Q3
  have B0 := B1
  have H2 := G2
  clear Q1 Q2 Q3 B1 G2
  clear hu HD1 G1
  have g0 := P1.out.cell 0
  have g1 := P1.out.cell 1
  go_wp2_with fail
  clear g0 g1
  refine (cdecode_good k1 A1 n1 c1 q1 s p w2 H1.out HC1.out hp2 hp4 hs HD2.out).mono ?_
  rintro x w3 ⟨r, rfl, ho3, hb3⟩
  have HD3 := Lib.hid (HD2.out.below hb3)
  have Q1 := Lib.hid (P1.out.stay hb3)
  have Q2 := Lib.hid (P2.out.stay hb3)
  have Q3 := Lib.hid (P3.out.stay hb3)
  have B1 := Lib.hid (B0.out.trans (hb3.mono B0.out.size))
  have G2 := Lib.hid (H2.out.stay hb3)
  clear P1 P2 P3 B0 H2
  have P1 := Q1
  have P2 := Q2
  have P3 := Q3
  have B0 := B1
  have H2 := G2
  clear Q1 Q2 Q3 B1 G2
  obtain ⟨A3, c3, rfl, _, hr3⟩ := val_of_own ho3
  have bn := below_new w3 (.cells #[.int .i64 0, .int .i64 0] 37)
  have R3 := Lib.hid (hr3.stay bn)
  have HD4 := Lib.hid (HD3.out.below bn)
  have FN := Lib.hid (Blk.new w3 37 #[.int .i64 0, .int .i64 0])
  have Q1 := Lib.hid (P1.out.stay bn)
  have Q2 := Lib.hid (P2.out.stay bn)
  have Q3 := Lib.hid (P3.out.stay bn)
  have B1 := Lib.hid (B0.out.trans (bn.mono B0.out.size))
  have G2 := Lib.hid (H2.out.stay bn)
  clear P1 P2 P3 B0 H2
  have P1 := Q1
  have P2 := Q2
  have P3 := Q3
  have B0 := B1
  have H2 := G2
  clear Q1 Q2 Q3 B1 G2
  clear hr3 ho3 HD2 HD3 bn H1
  have g0 := P2.out.cell 0
  have g1 := P2.out.cell 1
  have e0 := FN.out.cell 0
  have e1 := FN.out.cell 1
  go_wp2_with fail
  clear g0 g1 e0 e1
  obtain ⟨W4, hW4⟩ : ∃ W, W = w3.alloc (.cells #[.int .i64 0, .int .i64 0] 37) := ⟨_, rfl⟩
  rw [← hW4] at H2 P1 P2 P3 B0 R3 HD4 ⊢
  clear hW4
  refine (cencode_good k2 A2 n2 c2 q2 A3 _ c3 (decF (cdOf k1 q1) p s) p W4 H2.out R3.out HC2.out hp2 hp4 (by have := Hdl.out; omega) Hds.out HD4.out).mono ?_
  rintro x w5 ⟨rfl, hb5⟩
  have hF3 := P3.out.stay hb5
  have b3 := B0.out.trans (hb5.mono B0.out.size)
  clear hb5 P1 P2 P3 B0 H2
  obtain ⟨o, ho⟩ : ∃ o, o = encF (cdOf k2 q2) p (decF (cdOf k1 q1) p s) := ⟨_, rfl⟩
  rw [← ho]
  have Ho := Lib.hid ho
  clear ho
  have hF := hF3
  have z0 := hF.cell 0
  have z1 := hF.cell 1
  have f0 := hF.frozen 0
  have f1 := hF.frozen 1
  have hF2 := (hF.set_ 0 (.int .i64 0)).set_ 1 (.int .i64 0)
  have bF := (b3.setCell (p := ⟨w.heap.size + 1 + 1, 0, none⟩) (by simp; omega) (.int .i64 0)).setCell (p := ⟨w.heap.size + 1 + 1, 1, none⟩) (by simp; omega) (.int .i64 0)
  have D := Lib.hid (And.intro (hF2.cell 0) (hF2.cell 1))
  have BF := Lib.hid bF
  clear bF hF2
  go_wp2
  obtain ⟨d0, d1⟩ := D.out
  have bF := BF.out
  clear D BF z0 z1 f0 f1 hF
  generalize World.setCell (World.setCell _ ⟨w.heap.size + 1 + 1, 0, none⟩ (.int .i64 0)) ⟨w.heap.size + 1 + 1, 1, none⟩ (.int .i64 0) = V at d0 d1 bF ⊢
  exact bodyPost_ret (v := .tuple #[.string ⟨o.toArray⟩, .agg #[.int .i64 0, .int .i64 0]]) (by simp [results, Tryd.results24, go_sem] at d0 d1 ⊢; simp [d0, d1]) rfl ⟨by rw [← Ho.out], bF⟩

theorem convK_any (k1 : Int) (A1 : Option Addr) (n1 c1 : Nat) (q1 : List Int) (k2 : Int) (A2 : Option Addr) (n2 c2 : Nat) (q2 : List Int) (s : List UInt8) (p : Int) (w : World) (h1 : Reads w w.heap.size 1 A1 n1 (q1.map iv)) (h2 : Reads w w.heap.size 1 A2 n2 (q2.map iv)) (hC1 : CkE k1 q1 0) (hC2 : CkE k2 q2 0) (hp1 : 1 ≤ p) (hp4 : p ≤ 4) (hs : s.length ≤ 100000) (hdg : Dig w) :
    Calls Tryd.prog 24 #[.agg #[.int .i64 k1, .slice A1 n1 c1], .agg #[.int .i64 k2, .slice A2 n2 c2], .string ⟨s.toArray⟩, .int .i64 p] w fun x w' => x = .returned (outT (convK (cdOf k1 q1) (cdOf k2 q2) p s)) ∧ Below w.heap.size w w' := by
  by_cases hp : p = 1
  · subst hp
    rw [convK_strict]
    exact convF_good k1 A1 n1 c1 q1 k2 A2 n2 c2 q2 s w h1 h2 hC1 hC2 (by omega) hdg
  · rw [convK, if_neg hp]
    exact convP_good k1 A1 n1 c1 q1 k2 A2 n2 c2 q2 s p w h1 h2 hC1 hC2 (by omega) hp4 hs hdg
theorem encK_len (L : Cd) (p : Int) : ∀ (l : List Int) (i : Nat) (o : List UInt8), encK L p i l = .ok o → o.length ≤ 64 * l.length := by
  intro l
  induction l with
  | nil => intro i o h; rw [encK] at h; cases h; simp
  | cons c l ih =>
    intro i o h
    cases hf : formK L c with
    | some x =>
      have hx := (formK_ne hf).2
      rw [encK_some hf] at h
      cases hr : encK L p (i + 1) l with
      | error e => rw [hr] at h; cases h
      | ok q =>
        rw [hr, pre8_ok] at h; injection h with h; subst h
        have := ih _ _ hr
        simp; omega
    | none =>
      by_cases hp : p = 1
      · subst hp; rw [encK_fail hf] at h; cases h
      · rw [encK_lost hf hp] at h
        have hx := lostK_len L c p
        cases hr : encK L p (i + 1) l with
        | error e => rw [hr] at h; cases h
        | ok q =>
          rw [hr, pre8_ok] at h; injection h with h; subst h
          have := ih _ _ hr
          simp; omega
theorem convK_len {K L : Cd} {p : Int} {s o : List UInt8} (h : convK K L p s = .ok o) : o.length ≤ 320 * s.length := by
  unfold convK at h
  split at h
  · have := strictK_len K L _ _ _ _ (Nat.le_refl _) h; omega
  · rename_i hp
    injection h with h
    subst h
    have h1 := encK_len L p _ _ _ (encF_eq (L := L) hp (decF K p s))
    have h2 := decK_len K p _ _ _ _ (Nat.le_refl _) (decF_eq (K := K) hp s)
    omega
end Go.Proofs.YtbcbmmgfdobdiaaDoor

/- unicodetextlaw13.MultistageEqual. -/
import Derived.Test.YtnlmikefihaldaaMm
namespace Go.Proofs.Ytnlmikefihaldaa
open Go.RowKit

/-- what Build hands back, in one form -/
theorem buildE_sum {l : List (Int × Int × Int)} {ws : List Int} {m : Nat} {e : Ending} {w : World} (hb : BuildE l ws m e w) : ∃ a1 b1 e1 a2 b2 e2 ex, e = .returned (.tuple #[.agg #[.slice a1 b1 e1, .slice a2 b2 e2], .int .i64 ex]) ∧
    (ex ≠ 0 ∨ (ex = 0 ∧ ChkR l ws 0 ∧ b1 = m ∧ b2 = m + 1 ∧ ∃ ss, Tab w w.heap.size a1 m e1 a2 (m + 1) e2 ws ss ∧ CanT l ws ss)) := by
  rcases buildE_cases hb with ⟨r, hr0, _, rfl⟩ | ⟨hr, A3, c3, A4, c4, ss, rfl, hT, hC⟩
  · exact ⟨_, _, _, _, _, _, _, rfl, .inl hr0⟩
  · exact ⟨_, _, _, _, _, _, _, rfl, .inr ⟨rfl, hr, rfl, rfl, ss, hT, hC⟩⟩

set_option maxRecDepth 100000 in
set_option maxHeartbeats 4000000 in
theorem wk_equal (A0 : Option Addr) (n0 c0 : Nat) (l : List (Int × Int × Int)) (A1 : Option Addr) (n1 c1 : Nat) (ws : List Int) (B1 : Option Addr) (m1 d1 : Nat) (ws' : List Int) (A2 : Option Addr) (n2 c2 : Nat) (cs : List Int) (w : World) (r0 : Reads w w.heap.size 3 A0 n0 (l.flatMap spv)) (_m0 : n0 ≤ c0) (i0 : W64s l)
    (r1 : Reads w w.heap.size 1 A1 n1 (ws.map iv)) (q1 : n1 ≤ c1) (_i1 : ∀ x ∈ ws, W64 x) (u1 : Reads w w.heap.size 1 B1 m1 (ws'.map iv)) (v1 : m1 ≤ d1) (_z1 : ∀ x ∈ ws', W64 x) (r2 : Reads w w.heap.size 1 A2 n2 (cs.map iv)) (_m2 : n2 ≤ c2) (_i2 : ∀ x ∈ cs, W64 x) :
    Calls Try.prog 8 #[.slice A0 n0 c0, .agg #[.slice A1 n1 c1, .slice B1 m1 d1], .slice A2 n2 c2] w fun e w' => e = .returned (.bool true) ∧ Below w.heap.size w w' := by
  have hL : Below w.heap.size w (w.alloc (.cells #[.slice A1 n1 c1, .slice B1 m1 d1] 42)) := (Below.refl _ w).alloc (Nat.le_refl _) _
  have hblk0 := Blk.new w 42 #[.slice A1 n1 c1, .slice B1 m1 d1]
  have R0 := Lib.hid ((r0.below hL).more hL.size)
  have R1 := Lib.hid ((r1.below hL).more hL.size)
  have U1 := Lib.hid ((u1.below hL).more hL.size)
  have R2 := Lib.hid ((r2.below hL).more hL.size)
  have I0 := Lib.hid i0
  clear r0 r1 r2 u1 i0 _i1 _i2 _m0 _m2 _z1
  have p0 := hblk0.cell 0
  have p1 := hblk0.cell 1
  go_enter Try.func8, Try.ntmps8
  go_wp2_with fail
  obtain ⟨W, hW⟩ : ∃ W, W = w.alloc (.cells #[.slice A1 n1 c1, .slice B1 m1 d1] 42) := ⟨_, rfl⟩
  rw [← hW] at hL hblk0 R0 R1 U1 R2 p0 p1 ⊢
  clear hW
  have HL := Lib.hid hL
  have HBb := Lib.hid hblk0
  clear hL hblk0
  refine (few_any A0 A1 n0 c0 n1 c1 W).mono ?_
  rintro e w1 ⟨rfl, rfl⟩
  by_cases hf : n0 ≤ 40 ∧ n1 ≤ 6
  rotate_left
  · rw [decide_eq_false hf]
    clear hf
    go_wp2_with fail
    refine (awake_any w1).mono ?_
    rintro e w2 ⟨rfl, hb2⟩
    have HE := Lib.hid (HL.out.trans (hb2.mono HL.out.size))
    clear hb2
    go_wp2
    go_ret
    exact ⟨rfl, HE.out⟩
  rw [decide_eq_true hf]
  obtain ⟨hf0, hf1⟩ := hf
  by_cases hm : 6 < m1
  · have hmd : (6 : Int) < (m1 : Int) := by omega
    go_wp2_with fail
    refine (awake_any w1).mono ?_
    rintro e w2 ⟨rfl, hb2⟩
    have HE := Lib.hid (HL.out.trans (hb2.mono HL.out.size))
    clear hb2
    go_wp2
    go_ret
    exact ⟨rfl, HE.out⟩
  have hmd : ¬ (6 : Int) < (m1 : Int) := by omega
  by_cases hc : 100 < n2
  · have hcd : (100 : Int) < (n2 : Int) := by omega
    go_wp2_with fail
    refine (awake_any w1).mono ?_
    rintro e w2 ⟨rfl, hb2⟩
    have HE := Lib.hid (HL.out.trans (hb2.mono HL.out.size))
    clear hb2
    go_wp2
    go_ret
    exact ⟨rfl, HE.out⟩
  have hcd : ¬ (100 : Int) < (n2 : Int) := by omega
  go_wp2_with fail
  refine (build_any A0 n0 c0 l A1 n1 c1 ws w1 R0.out R1.out (by omega) q1 (by omega) I0.out).mono ?_
  rintro e w2 ⟨hE, hb2⟩
  have HB2 := Lib.hid hb2
  have HBb2 := Lib.hid (HBb.out.stay hb2)
  clear hb2 p0 p1
  obtain ⟨a1, b1, e1, a2, b2, e2, ex, rfl, hE1⟩ := buildE_sum hE
  have HE1 := Lib.hid hE1
  clear hE hE1
  have hbn := (Below.refl w2.heap.size w2).alloc (Nat.le_refl _) (.cells #[.slice a1 b1 e1, .slice a2 b2 e2] 28)
  have hblk2 := Blk.new w2 28 #[.slice a1 b1 e1, .slice a2 b2 e2]
  have hBb3 := HBb2.out.stay hbn
  have hB3 := HB2.out.trans (hbn.mono HB2.out.size)
  have p1 := hBb3.cell 1
  go_wp2_with fail
  obtain ⟨w3, hw3⟩ : ∃ w3, w3 = w2.alloc (.cells #[.slice a1 b1 e1, .slice a2 b2 e2] 28) := ⟨_, rfl⟩
  rw [← hw3] at hbn hblk2 hBb3 hB3 p1 ⊢
  have Hbn := Lib.hid hbn
  have HBk2 := Lib.hid hblk2
  have HBb3 := Lib.hid hBb3
  have HB3 := Lib.hid hB3
  clear hw3 hbn hblk2 hBb3 hB3 p1
  refine (build_any A0 n0 c0 l B1 m1 d1 ws' w3 ((R0.out.below HB3.out).more HB3.out.size) ((U1.out.below HB3.out).more HB3.out.size) (by omega) v1 (by omega) I0.out).mono ?_
  rintro e w4 ⟨hE, hb4⟩
  have HB4 := Lib.hid (HB3.out.trans (hb4.mono HB3.out.size))
  have Hb4 := Lib.hid hb4
  have HBk4 := Lib.hid (HBk2.out.stay hb4)
  clear hb4
  obtain ⟨a3, b3, e3, a4, b4, e4, ey, rfl, hE2⟩ := buildE_sum hE
  have HE2 := Lib.hid hE2
  clear hE hE2
  have hbn := (Below.refl w4.heap.size w4).alloc (Nat.le_refl _) (.cells #[.slice a3 b3 e3, .slice a4 b4 e4] 28)
  have hblk := Blk.new w4 28 #[.slice a3 b3 e3, .slice a4 b4 e4]
  have hBk5 := HBk4.out.stay hbn
  have hB5 := HB4.out.trans (hbn.mono HB4.out.size)
  have Hbn5 := Lib.hid hbn
  have HBk5 := Lib.hid hblk
  have HBk2' := Lib.hid hBk5
  have HB15 := Lib.hid hB5
  have HB5 := Lib.hid (HL.out.trans (hB5.mono HL.out.size))
  clear hbn hblk hBk5 hB5 HBb3
  by_cases hx : ex = 0
  rotate_left
  · have hxb : (ex != 0) = true := by simpa using hx
    clear hx
    go_wp2_with fail
    refine (awake_any _).mono ?_
    rintro e w6 ⟨rfl, hb6⟩
    have HE := Lib.hid (HB5.out.trans (hb6.mono HB5.out.size))
    clear hb6
    go_wp2
    go_ret
    exact ⟨rfl, HE.out⟩
  by_cases hy : ey = 0
  rotate_left
  · have hyb : (ey != 0) = true := by simpa using hy
    subst hx
    clear hy
    go_wp2_with fail
    refine (awake_any _).mono ?_
    rintro e w6 ⟨rfl, hb6⟩
    have HE := Lib.hid (HB5.out.trans (hb6.mono HB5.out.size))
    clear hb6
    go_wp2
    go_ret
    exact ⟨rfl, HE.out⟩
  subst hx
  subst hy
  obtain ⟨hr, rfl, rfl, ss, hT, hC⟩ : ChkR l ws 0 ∧ b1 = n1 ∧ b2 = n1 + 1 ∧ ∃ ss, Tab w2 w2.heap.size a1 n1 e1 a2 (n1 + 1) e2 ws ss ∧ CanT l ws ss := by
    rcases HE1.out with h | ⟨_, h⟩
    · exact absurd rfl h
    · exact h
  obtain ⟨hr', rfl, rfl, ss', hT', hC'⟩ : ChkR l ws' 0 ∧ b3 = m1 ∧ b4 = m1 + 1 ∧ ∃ ss, Tab w4 w4.heap.size a3 m1 e3 a4 (m1 + 1) e4 ws' ss ∧ CanT l ws' ss := by
    rcases HE2.out with h | ⟨_, h⟩
    · exact absurd rfl h
    · exact h
  obtain ⟨w5, hw5⟩ : ∃ w5, w5 = w4.alloc (.cells #[.slice a3 b3 e3, .slice a4 (b3 + 1) e4] 28) := ⟨_, rfl⟩
  rw [← hw5] at Hbn5 HBk5 HBk2' HB5 HB15
  have hb25 := Hbn.out.trans ((Hb4.out.mono Hbn.out.size).trans (Hbn5.out.mono (Nat.le_trans Hbn.out.size Hb4.out.size)))
  have HT := Lib.hid ((hT.below hb25).more hb25.size)
  have HT' := Lib.hid ((hT'.below Hbn5.out).more Hbn5.out.size)
  have HC := Lib.hid hC
  have HC' := Lib.hid hC'
  have Hs := Lib.hid (chk_zero hr).1
  have Hln := Lib.hid (fun i => Nat.le_trans (hC.len i) (show 1114112 ≤ 1000000000 by omega))
  have Hln' := Lib.hid (fun i => Nat.le_trans (hC'.len i) (show 1114112 ≤ 1000000000 by omega))
  clear hr hr' hT hT' hC hC' hb25 HE1 HE2
  have KK := Lib.hid (show ∀ u, Below w5.heap.size w5 u → u.cell? ⟨w2.heap.size, 0, none⟩ = some (.slice a1 b1 e1) ∧ u.cell? ⟨w2.heap.size, 1, none⟩ = some (.slice a2 (b1 + 1) e2) ∧ u.cell? ⟨w4.heap.size, 0, none⟩ = some (.slice a3 b3 e3) ∧ u.cell? ⟨w4.heap.size, 1, none⟩ = some (.slice a4 (b3 + 1) e4) from fun u hu =>
    ⟨(hu.cell HBk2'.out.lt).trans (HBk2'.out.cell 0), (hu.cell HBk2'.out.lt).trans (HBk2'.out.cell 1), (hu.cell HBk5.out.lt).trans (HBk5.out.cell 0), (hu.cell HBk5.out.lt).trans (HBk5.out.cell 1)⟩)
  have Hw5 := Lib.hid hw5
  clear hw5
  go_wp2
  rw [← Hw5.out]
  go_loopw [11] (fun s11 wr => ∃ k : Nat, k ≤ n2 ∧ s11 = .int .i64 (k : Int) ∧ Hid (Below w5.heap.size w5 wr)) (fun s11 _ => n2 - (intOf s11).toNat)
  case atStart => exact ⟨0, by omega, rfl, Lib.hid (Below.refl _ _)⟩
  case round =>
    obtain ⟨k, hk, rfl, Hb⟩ := hrel
    have hbS : Below w5.heap.size w5 wr.drew := Hb.out.drew
    have HBw := Lib.hid (HB5.out.trans (Hb.out.mono HB5.out.size))
    by_cases hlt : k < n2
    · obtain ⟨ad, u, rfl, hadB, hu, hc5⟩ := (R2.out.below HB15.out).at_ hlt
      obtain ⟨x, hx, rfl⟩ := getElem_map_iv' hu
      have hki : (k : Int) < (n2 : Int) := by omega
      have hwsz := HB15.out.size
      obtain ⟨V, hV⟩ : ∃ V, V = wantV l x := ⟨_, rfl⟩
      have CG := Lib.hid (show ∀ u, Below w5.heap.size w5 u → Calls Try.prog 19 #[.agg #[.slice a1 b1 e1, .slice a2 (b1 + 1) e2], .int .i64 x] u fun e u' => e = .returned (.int .i64 V) ∧ Below w5.heap.size w5 u' from fun u hu =>
        (get_any a1 a2 b1 e1 (b1 + 1) e2 ws ss x u ((HT.out.below hu).more hu.size) (by omega) (by omega) Hln.out HC.out.w64).mono fun e u' ⟨⟨v, h1, h2⟩, h3⟩ => ⟨by rw [h1, get_want HC.out h2, hV], hu.trans (h3.mono hu.size)⟩)
      have CG' := Lib.hid (show ∀ u, Below w5.heap.size w5 u → Calls Try.prog 19 #[.agg #[.slice a3 b3 e3, .slice a4 (b3 + 1) e4], .int .i64 x] u fun e u' => e = .returned (.int .i64 V) ∧ Below w5.heap.size w5 u' from fun u hu =>
        (get_any a3 a4 b3 e3 (b3 + 1) e4 ws' ss' x u ((HT'.out.below hu).more hu.size) (by omega) (by omega) Hln'.out HC'.out.w64).mono fun e u' ⟨⟨v, h1, h2⟩, h3⟩ => ⟨by rw [h1, get_want HC'.out h2, hV], hu.trans (h3.mono hu.size)⟩)
      have K := Lib.hid (show ∀ u, Below w5.heap.size w5 u → u.cell? (ad.add k) = some (.int .i64 x) from fun u hu => (hu.cell (by rw [block_of_add]; omega)).trans hc5)
      clear hu hx hV hc5
      go_wp2_with fail
      go_region_held3 (fun u => Below w5.heap.size w5 u ∧ (u.cell? ⟨w2.heap.size, 0, none⟩ = some (.slice a1 b1 e1) ∧ u.cell? ⟨w2.heap.size, 1, none⟩ = some (.slice a2 (b1 + 1) e2) ∧ u.cell? ⟨w4.heap.size, 0, none⟩ = some (.slice a3 b3 e3) ∧ u.cell? ⟨w4.heap.size, 1, none⟩ = some (.slice a4 (b3 + 1) e4)) ∧ u.cell? (ad.add k) = some (.int .i64 x)) (first | exact ⟨hbS, KK.out _ hbS, K.out _ hbS⟩) (first | (go_at_call 19; (with_reducible refine (CG.out _ hbS).mono ?_); rintro e u ⟨rfl, hbu⟩; clear hbS; have hbS := hbu; clear hbu) | (go_at_call 19; (with_reducible refine (CG'.out _ hbS).mono ?_); rintro e u ⟨rfl, hbu⟩; clear hbS; have hbS := hbu; clear hbu))
      all_goals (have HN := Lib.hid hbS; clear hbS)
      all_goals go_wp2
      all_goals go_roundw
      all_goals (first | exact ⟨k + 1, by omega, by go_num, HN⟩ | (simp [intOf]; omega))
    · have hki : ¬ (k : Int) < (n2 : Int) := by omega
      have CS := Lib.hid (show ∀ u, Below w5.heap.size w5 u → Calls Try.prog 28 #[.agg #[.slice a1 b1 e1, .slice a2 (b1 + 1) e2]] u fun e u' => (∃ A n c, e = .returned (.slice A n c) ∧ Reads u' u'.heap.size 3 A n (l.flatMap spv) ∧ n ≤ 1000000000) ∧ Below w5.heap.size w5 u' ∧ Below u.heap.size u u' from fun u hu =>
        (spans_any a1 a2 b1 e1 (b1 + 1) e2 ws ss u ((HT.out.below hu).more hu.size) (by omega) (by omega) Hln.out HC.out.w64).mono fun e u' ⟨⟨A6, n6, c6, l6, h1, hr6, _, hn6, hok6, _⟩, h3⟩ => by
          have hl6 : l6 = l := sinv_end (hok6 HC.out.ok) Hs.out HC.out.val
          subst hl6
          exact ⟨⟨A6, n6, c6, h1, hr6, by omega⟩, hu.trans (h3.mono hu.size), h3⟩)
      have CS' := Lib.hid (show ∀ u, Below w5.heap.size w5 u → Calls Try.prog 28 #[.agg #[.slice a3 b3 e3, .slice a4 (b3 + 1) e4]] u fun e u' => (∃ A n c, e = .returned (.slice A n c) ∧ Reads u' u'.heap.size 3 A n (l.flatMap spv) ∧ n ≤ 1000000000) ∧ Below w5.heap.size w5 u' ∧ Below u.heap.size u u' from fun u hu =>
        (spans_any a3 a4 b3 e3 (b3 + 1) e4 ws' ss' u ((HT'.out.below hu).more hu.size) (by omega) (by omega) Hln'.out HC'.out.w64).mono fun e u' ⟨⟨A6, n6, c6, l6, h1, hr6, _, hn6, hok6, _⟩, h3⟩ => by
          have hl6 : l6 = l := sinv_end (hok6 HC'.out.ok) Hs.out HC'.out.val
          subst hl6
          exact ⟨⟨A6, n6, c6, h1, hr6, by omega⟩, hu.trans (h3.mono hu.size), h3⟩)
      have CE := Lib.hid (show ∀ (A : Option Addr) (n c : Nat) (A' : Option Addr) (n' c' : Nat) (u : World), Reads u u.heap.size 3 A n (l.flatMap spv) → Reads u u.heap.size 3 A' n' (l.flatMap spv) → n ≤ 1000000000 → Below w5.heap.size w5 u → Calls Try.prog 27 #[.slice A n c, .slice A' n' c'] u fun e u' => e = .returned (.bool true) ∧ Below w5.heap.size w5 u' from fun A n c A' n' c' u h1 h2 h3 hu =>
        (sameSpans_any A A' n c n' c' l u h1 h2 h3).mono fun e u' ⟨h4, q, h5⟩ => ⟨h4, by rw [h5]; exact below_drewN hu q⟩)
      have CA := Lib.hid (show ∀ u, Below w5.heap.size w5 u → Calls Try.prog 11 #[] u fun e u' => e = .returned (.bool true) ∧ Below w5.heap.size w5 u' from fun u hu =>
        (awake_any u).mono fun e u' ⟨h1, h2⟩ => ⟨h1, hu.trans (h2.mono hu.size)⟩)
      go_wp2_with fail
      go_region_held3 (fun u => Below w5.heap.size w5 u ∧ u.cell? ⟨w2.heap.size, 0, none⟩ = some (.slice a1 b1 e1) ∧ u.cell? ⟨w2.heap.size, 1, none⟩ = some (.slice a2 (b1 + 1) e2) ∧ u.cell? ⟨w4.heap.size, 0, none⟩ = some (.slice a3 b3 e3) ∧ u.cell? ⟨w4.heap.size, 1, none⟩ = some (.slice a4 (b3 + 1) e4)) (first | exact ⟨hbS, KK.out _ hbS⟩) (first | (go_at_call 28; (with_reducible refine (CS.out _ hbS).mono ?_); rintro e u ⟨⟨A6, n6, c6, rfl, hr6, hn6⟩, hbu, hbp⟩; (try (have hr7' := (hr7.below hbp).more hbp.size; clear hr7; have hr7 := hr7'; clear hr7')); clear hbS; have hbS := hbu; clear hbu hbp) | (go_at_call 28; (with_reducible refine (CS'.out _ hbS).mono ?_); rintro e u ⟨⟨A7, n7, c7, rfl, hr7, hn7⟩, hbu, hbp⟩; (try (have hr6' := (hr6.below hbp).more hbp.size; clear hr6; have hr6 := hr6'; clear hr6')); clear hbS; have hbS := hbu; clear hbu hbp) | (go_at_call 27; (with_reducible refine (CE.out _ _ _ _ _ _ _ hr6 hr7 hn6 hbS).mono ?_); rintro e u ⟨rfl, hbu⟩; clear hbS; have hbS := hbu; clear hbu) | (go_at_call 11; (with_reducible refine (CA.out _ hbS).mono ?_); rintro e u ⟨rfl, hbu⟩; clear hbS; have hbS := hbu; clear hbu))
      all_goals (have HE := Lib.hid (HB5.out.trans (hbS.mono HB5.out.size)); clear hbS)
      all_goals (go_wp2; go_ret; exact ⟨rfl, HE.out⟩)
end Go.Proofs.Ytnlmikefihaldaa

/- unicodetextlaw13.MultistageGets. -/
import Derived.Test.YtnlmikefihaldaaMl
import Derived.Test.YtnlmikefihaldaaMk
namespace Go.Proofs.Ytnlmikefihaldaa
open Go.RowKit

/-- the value that the law expects -/
def wantV (l : List (Int × Int × Int)) (x : Int) : Int := if 0 ≤ x ∧ x ≤ 1114111 then valF l x else 0
theorem get_want {l : List (Int × Int × Int)} {ws : List Int} {ss : List (List Int)} (h : CanT l ws ss) {x v : Int} (hv : (0 ≤ x ∧ x ≤ 1114111 ∧ okT ws ss → v = look ws ss x.toNat) ∧ (¬ (0 ≤ x ∧ x ≤ 1114111 ∧ okT ws ss) → v = 0)) : v = wantV l x := by
  unfold wantV
  by_cases q : 0 ≤ x ∧ x ≤ 1114111
  · rw [if_pos q, hv.1 ⟨q.1, q.2, h.ok⟩, h.val _ (by omega), Int.toNat_of_nonneg q.1]
  · rw [if_neg q]
    exact hv.2 fun h => q ⟨h.1, h.2.1⟩
theorem buildE_cases {l : List (Int × Int × Int)} {ws : List Int} {m : Nat} {e : Ending} {w : World} (hb : BuildE l ws m e w) : (∃ r : Int, r ≠ 0 ∧ ChkR l ws r ∧ e = .returned (.tuple #[.agg #[.slice none 0 0, .slice none 0 0], .int .i64 r])) ∨
    (ChkR l ws 0 ∧ ∃ A1 c1 A2 c2 ss, e = .returned (.tuple #[.agg #[.slice A1 m c1, .slice A2 (m + 1) c2], .int .i64 0]) ∧ Tab w w.heap.size A1 m c1 A2 (m + 1) c2 ws ss ∧ CanT l ws ss) := by
  rcases hb with h | ⟨h1, v, ss, rfl, ⟨A1, c1, A2, c2, rfl, ht⟩, hc⟩
  · exact .inl h
  · exact .inr ⟨h1, A1, c1, A2, c2, ss, rfl, ht, hc⟩
theorem chk_zero {l : List (Int × Int × Int)} {ws : List Int} (h : ChkR l ws 0) : okS l ∧ okW ws := by
  rcases h with ⟨_, h⟩ | ⟨_, _, h⟩ | ⟨h1, h2, _⟩
  · omega
  · omega
  · exact ⟨h1, h2⟩

set_option maxRecDepth 100000 in
set_option maxHeartbeats 4000000 in
theorem wk_gets (A0 : Option Addr) (n0 c0 : Nat) (l : List (Int × Int × Int)) (A1 : Option Addr) (n1 c1 : Nat) (ws : List Int) (A2 : Option Addr) (n2 c2 : Nat) (cs : List Int) (w : World) (r0 : Reads w w.heap.size 3 A0 n0 (l.flatMap spv)) (_m0 : n0 ≤ c0) (i0 : W64s l)
    (r1 : Reads w w.heap.size 1 A1 n1 (ws.map iv)) (m1 : n1 ≤ c1) (_i1 : ∀ x ∈ ws, W64 x) (r2 : Reads w w.heap.size 1 A2 n2 (cs.map iv)) (_m2 : n2 ≤ c2) (_i2 : ∀ x ∈ cs, W64 x) :
    Calls Try.prog 6 #[.slice A0 n0 c0, .slice A1 n1 c1, .slice A2 n2 c2] w fun e w' => e = .returned (.bool true) ∧ Below w.heap.size w w' := by
  have R0 := Lib.hid r0
  have R1 := Lib.hid r1
  have R2 := Lib.hid r2
  have I0 := Lib.hid i0
  clear r0 r1 r2 i0 _i1 _i2 _m0 _m2
  go_enter Try.func6, Try.ntmps6
  go_wp2_with fail
  refine (few_any A0 A1 n0 c0 n1 c1 w).mono ?_
  rintro e w1 ⟨rfl, rfl⟩
  by_cases hf : n0 ≤ 40 ∧ n1 ≤ 6
  rotate_left
  · rw [decide_eq_false hf]
    clear hf
    go_wp2_with fail
    refine (awake_any w1).mono ?_
    rintro e w2 ⟨rfl, hb2⟩
    go_wp2
    go_ret
    exact ⟨rfl, hb2⟩
  rw [decide_eq_true hf]
  obtain ⟨hf0, hf1⟩ := hf
  by_cases hc : 100 < n2
  · have hcd : (100 : Int) < (n2 : Int) := by omega
    go_wp2_with fail
    refine (awake_any w1).mono ?_
    rintro e w2 ⟨rfl, hb2⟩
    go_wp2
    go_ret
    exact ⟨rfl, hb2⟩
  have hcd : ¬ (100 : Int) < (n2 : Int) := by omega
  go_wp2_with fail
  refine (build_any A0 n0 c0 l A1 n1 c1 ws w1 R0.out R1.out (by omega) m1 (by omega) I0.out).mono ?_
  rintro e w2 ⟨hE, hb2⟩
  have HB2 := Lib.hid hb2
  clear hb2
  rcases buildE_cases hE with ⟨r, hr0, hr, rfl⟩ | ⟨hr, A3, c3, A4, c4, ss, rfl, hT, hC⟩
  · clear hE hr
    have hrb : (r != 0) = true := by simpa using hr0
    have hbn := (Below.refl w2.heap.size w2).alloc (Nat.le_refl _) (.cells #[.slice none 0 0, .slice none 0 0] 28)
    have HBn := Lib.hid (HB2.out.trans (hbn.mono HB2.out.size))
    clear hbn
    go_wp2_with fail
    refine (awake_any _).mono ?_
    rintro e w3 ⟨rfl, hb3⟩
    have HE := Lib.hid (HBn.out.trans (hb3.mono HBn.out.size))
    clear hb3
    go_wp2
    go_ret
    exact ⟨rfl, HE.out⟩
  · obtain ⟨hs, hw⟩ := chk_zero hr
    have HC := Lib.hid hC
    have Hs := Lib.hid hs
    have Hln := Lib.hid (fun i => Nat.le_trans (hC.len i) (show 1114112 ≤ 1000000000 by omega))
    have hbn := (Below.refl w2.heap.size w2).alloc (Nat.le_refl _) (.cells #[.slice A3 n1 c3, .slice A4 (n1 + 1) c4] 28)
    have hblk := Blk.new w2 28 #[.slice A3 n1 c3, .slice A4 (n1 + 1) c4]
    have hT3 := (hT.below hbn).more hbn.size
    have hB3 := HB2.out.trans (hbn.mono HB2.out.size)
    clear hE hr hC hs hw hbn hT
    go_wp2_with fail
    obtain ⟨w3, hw3⟩ : ∃ w3, w3 = w2.alloc (.cells #[.slice A3 n1 c3, .slice A4 (n1 + 1) c4] 28) := ⟨_, rfl⟩
    rw [← hw3] at hblk hT3 hB3 ⊢
    have HBk := Lib.hid hblk
    have HT := Lib.hid hT3
    have HB3 := Lib.hid hB3
    clear hw3 hblk hT3 hB3 HB2
    go_loopw [9] (fun s9 wr => ∃ k : Nat, k ≤ n2 ∧ s9 = .int .i64 (k : Int) ∧ Hid (Below w3.heap.size w3 wr)) (fun s9 _ => n2 - (intOf s9).toNat)
    case atStart => exact ⟨0, by omega, rfl, Lib.hid (Below.refl _ _)⟩
    case round =>
      obtain ⟨k, hk, rfl, Hb⟩ := hrel
      have HTk := Lib.hid ((HT.out.below Hb.out).more Hb.out.size)
      have HBkk := Lib.hid (HBk.out.below Hb.out HBk.out.lt)
      have HB0 := Lib.hid (HB3.out.trans (Hb.out.mono HB3.out.size))
      have g0 := HBkk.out.cell 0
      have g1 := HBkk.out.cell 1
      by_cases hlt : k < n2
      · have hrk := (R2.out.below HB0.out)
        obtain ⟨ad, u, rfl, hadB, hu, hcell⟩ := hrk.at_ hlt
        obtain ⟨x, hx, rfl⟩ := getElem_map_iv' hu
        have hki : (k : Int) < (n2 : Int) := by omega
        have hwsz := HB0.out.size
        have CG := Lib.hid (show ∀ u, Below wr.heap.size wr u → Calls Try.prog 19 #[.agg #[.slice A3 n1 c3, .slice A4 (n1 + 1) c4], .int .i64 x] u fun e u' => e = .returned (.int .i64 (wantV l x)) ∧ Below wr.heap.size wr u' from fun u hu =>
          (get_any A3 A4 n1 c3 (n1 + 1) c4 ws ss x u ((HTk.out.below hu).more hu.size) (by omega) (by omega) Hln.out HC.out.w64).mono fun e u' ⟨⟨v, h1, h2⟩, h3⟩ => ⟨by rw [h1, get_want HC.out h2], hu.trans (h3.mono hu.size)⟩)
        have K := Lib.hid (show ∀ u, Below wr.heap.size wr u → u.cell? ⟨w2.heap.size, 0, none⟩ = some (.slice A3 n1 c3) ∧ u.cell? ⟨w2.heap.size, 1, none⟩ = some (.slice A4 (n1 + 1) c4) ∧ u.cell? (ad.add k) = some (.int .i64 x) from fun u hu => ⟨(hu.cell HBkk.out.lt).trans g0, (hu.cell HBkk.out.lt).trans g1, (hu.cell (by rw [block_of_add]; omega)).trans hcell⟩)
        obtain ⟨V, hV⟩ : ∃ V, V = wantV l x := ⟨_, rfl⟩
        rw [← hV] at CG
        have hbS : Below wr.heap.size wr wr.drew := (Below.refl _ _).drew
        clear hrk hu hx
        by_cases q1 : 0 ≤ x
        · by_cases q2 : x ≤ 1114111
          · have hVv : V = valF l x := by rw [hV]; exact if_pos ⟨q1, q2⟩
            have HVv := Lib.hid hVv
            clear hV hVv
            go_wp2_with fail
            refine (rvalue_any A0 n0 c0 l x wr ((R0.out.below HB0.out).more hwsz) (by omega)).mono ?_
            rintro e w5 ⟨rfl, rfl⟩
            rw [← HVv.out]
            go_wp2_with fail
            go_region_held3 (fun u => Below w5.heap.size w5 u ∧ u.cell? ⟨w2.heap.size, 0, none⟩ = some (.slice A3 n1 c3) ∧ u.cell? ⟨w2.heap.size, 1, none⟩ = some (.slice A4 (n1 + 1) c4) ∧ u.cell? (ad.add k) = some (.int .i64 x)) (first | exact ⟨hbS, K.out _ hbS⟩) (first | (go_at_call 19; (with_reducible refine (CG.out _ hbS).mono ?_); rintro e u ⟨rfl, hbu⟩; clear hbS; have hbS := hbu; clear hbu))
            have HN := Lib.hid (Hb.out.trans (hbS.mono Hb.out.size))
            clear hbS
            go_wp2
            go_roundw
            case rel => exact ⟨k + 1, by omega, by go_num, HN⟩
            case measure => simp [intOf]; omega
          · have hVv : V = 0 := by rw [hV]; exact if_neg (fun h => q2 h.2)
            subst hVv
            clear hV
            go_wp2_with fail
            go_region_held3 (fun u => Below wr.heap.size wr u ∧ u.cell? ⟨w2.heap.size, 0, none⟩ = some (.slice A3 n1 c3) ∧ u.cell? ⟨w2.heap.size, 1, none⟩ = some (.slice A4 (n1 + 1) c4) ∧ u.cell? (ad.add k) = some (.int .i64 x)) (first | exact ⟨hbS, K.out _ hbS⟩) (first | (go_at_call 19; (with_reducible refine (CG.out _ hbS).mono ?_); rintro e u ⟨rfl, hbu⟩; clear hbS; have hbS := hbu; clear hbu))
            have HN := Lib.hid (Hb.out.trans (hbS.mono Hb.out.size))
            clear hbS
            go_wp2
            go_roundw
            case rel => exact ⟨k + 1, by omega, by go_num, HN⟩
            case measure => simp [intOf]; omega
        · have hVv : V = 0 := by rw [hV]; exact if_neg (fun h => q1 h.1)
          subst hVv
          clear hV
          go_wp2_with fail
          go_region_held3 (fun u => Below wr.heap.size wr u ∧ u.cell? ⟨w2.heap.size, 0, none⟩ = some (.slice A3 n1 c3) ∧ u.cell? ⟨w2.heap.size, 1, none⟩ = some (.slice A4 (n1 + 1) c4) ∧ u.cell? (ad.add k) = some (.int .i64 x)) (first | exact ⟨hbS, K.out _ hbS⟩) (first | (go_at_call 19; (with_reducible refine (CG.out _ hbS).mono ?_); rintro e u ⟨rfl, hbu⟩; clear hbS; have hbS := hbu; clear hbu))
          have HN := Lib.hid (Hb.out.trans (hbS.mono Hb.out.size))
          clear hbS
          go_wp2
          go_roundw
          case rel => exact ⟨k + 1, by omega, by go_num, HN⟩
          case measure => simp [intOf]; omega
      · have hki : ¬ (k : Int) < (n2 : Int) := by omega
        go_wp2_with fail
        refine (validT_any A3 A4 n1 c3 (n1 + 1) c4 ws ss wr HTk.out (by omega) (by omega) Hln.out HC.out.w64).mono ?_
        rintro e w5 ⟨hsay, hb5⟩
        have hsay2 := says_is hsay (b := true) ⟨fun _ => HC.out.ok, fun _ => rfl⟩
        subst hsay2
        have HB5 := Lib.hid (HB0.out.trans (hb5.mono HB0.out.size))
        have HT5 := Lib.hid ((HTk.out.below hb5).more hb5.size)
        have HBk5 := Lib.hid (HBkk.out.stay hb5)
        clear g0 g1 hsay hb5
        have g0 := HBk5.out.cell 0
        have g1 := HBk5.out.cell 1
        go_wp2_with fail
        clear g0 g1
        refine (spans_any A3 A4 n1 c3 (n1 + 1) c4 ws ss w5 HT5.out (by omega) (by omega) Hln.out HC.out.w64).mono ?_
        rintro e w6 ⟨⟨A6, n6, c6, l6, rfl, hr6, hc6, hn6, hok6, _⟩, hb6⟩
        have hl6 : l6 = l := sinv_end (hok6 HC.out.ok) Hs.out HC.out.val
        subst hl6
        have HB6 := Lib.hid (HB5.out.trans (hb6.mono HB5.out.size))
        have HR6 := Lib.hid hr6
        clear hok6 hb6 hr6
        go_wp2_with fail
        refine (sameSpans_any A6 A0 n6 c6 n0 c0 l6 w6 HR6.out ((R0.out.below HB6.out).more HB6.out.size) (by omega)).mono ?_
        rintro e w7 ⟨rfl, q, rfl⟩
        go_wp2_with fail
        refine (awake_any (w6.drewN q)).mono ?_
        rintro e w8 ⟨rfl, hb8⟩
        have HE := Lib.hid ((below_drewN HB6.out q).trans (hb8.mono HB6.out.size))
        clear hb8
        go_wp2
        go_ret
        exact ⟨rfl, HE.out⟩
end Go.Proofs.Ytnlmikefihaldaa

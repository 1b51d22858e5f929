/- unicodetextlaw13.MultistageSpans. -/
import Derived.Test.YtnlmikefihaldaaOg
import Derived.Test.YtnlmikefihaldaaOs
import Derived.Test.YtnlmikefihaldaaMm
namespace Go.Proofs.Ytnlmikefihaldaa
open Go.RowKit

theorem getD_w64 {l : List Int} (h : ∀ x ∈ l, W64 x) (i : Nat) : W64 (l.getD i 0) := by
  rw [List.getD_eq_getElem?_getD]
  cases hi : l[i]? with
  | none => simp [W64]
  | some x => exact h x (List.mem_of_getElem? hi)
theorem ex_w64 {ws : List Int} {ss : List (List Int)} (h : ∀ i, ∀ x ∈ stg ss i, W64 x) : ∀ f k i o, W64 (ex ws ss f k i o)
  | 0, k, i, o => by rw [ex]; exact getD_w64 (h _) _
  | f + 1, k, i, o => by rw [ex]; exact ex_w64 h f _ _ _
theorem sinv_w64 {ws : List Int} {ss : List (List Int)} {l : List (Int × Int × Int)} (hI : SInv (look ws ss) l 1114112) (h : ∀ i, ∀ x ∈ stg ss i, W64 x) : W64s l := by
  intro c
  by_cases hc : 0 ≤ c ∧ c < 1114112
  · obtain ⟨t, rfl⟩ : ∃ t : Nat, c = (t : Int) := ⟨c.toNat, by omega⟩
    rw [hI.val t (by omega)]
    exact ex_w64 h _ _ _ _
  · rw [valF_zero fun y hy => ?_]
    · simp [W64]
    · obtain ⟨i, hi⟩ := List.getElem?_of_mem hy
      have := hI.ok.1 i y hi
      unfold okS1 at this
      omega
theorem spn_same {ws : List Int} {ss : List (List Int)} {l l' : List (Int × Int × Int)} (h1 : okT ws ss → SInv (look ws ss) l 1114112) (h2 : ¬ okT ws ss → l = []) (h1' : okT ws ss → SInv (look ws ss) l' 1114112) (h2' : ¬ okT ws ss → l' = []) : l = l' := by
  by_cases h : okT ws ss
  · exact sinv_end (h1 h) (h1' h).ok (fun c hc => ((h1' h).val c hc).symm)
  · rw [h2 h, h2' h]

set_option maxRecDepth 100000 in
set_option maxHeartbeats 8000000 in
theorem wk_spans (A A' : Option Addr) (n c n' c' : Nat) (ws : List Int) (ss : List (List Int)) (w : World) (h : Tab w w.heap.size A n c A' n' c' ws ss) (hw : ∀ i, ∀ x ∈ stg ss i, W64 x) :
    Calls Try.prog 7 #[.agg #[.slice A n c, .slice A' n' c']] w fun e w' => e = .returned (.bool true) ∧ Below w.heap.size w w' := by
  have hL : Below w.heap.size w (w.alloc (.cells #[.slice A n c, .slice A' n' c'] 28)) := (Below.refl _ w).alloc (Nat.le_refl _) _
  have HB := Lib.hid (Blk.new w 28 #[.slice A n c, .slice A' n' c'])
  have HT := Lib.hid ((h.below hL).more hL.size)
  have HL := Lib.hid hL
  have Hw := Lib.hid hw
  clear h hL hw
  have g0 := HB.out.cell 0
  have g1 := HB.out.cell 1
  go_enter Try.func7, Try.ntmps7
  go_wp2_with fail
  obtain ⟨W, hW⟩ : ∃ W, W = w.alloc (.cells #[.slice A n c, .slice A' n' c'] 28) := ⟨_, rfl⟩
  rw [← hW] at HB HT HL g0 g1 ⊢
  clear hW
  refine (small_any A A' n c n' c' ws ss W HT.out).mono ?_
  rintro e w1 ⟨⟨b, rfl, hb⟩, hb1⟩
  have HB1 := Lib.hid (HB.out.stay hb1)
  have HT1 := Lib.hid ((HT.out.below hb1).more hb1.size)
  have HL1 := Lib.hid (HL.out.trans (hb1.mono HL.out.size))
  clear hb1 g0 g1 HB HT HL
  have g0 := HB1.out.cell 0
  have g1 := HB1.out.cell 1
  cases b with
  | false =>
    clear hb
    go_wp2_with fail
    refine (awake_any w1).mono ?_
    rintro e w2 ⟨rfl, hb2⟩
    have HL2 := Lib.hid (HL1.out.trans (hb2.mono HL1.out.size))
    clear hb2
    go_wp2
    go_ret
    exact ⟨rfl, HL2.out⟩
  | true =>
    obtain ⟨hn, hn', hl, _⟩ := hb rfl
    have Hl := Lib.hid hl
    have Hl9 := Lib.hid (fun i => Nat.le_trans (hl i) (show 12000 ≤ 1000000000 by omega))
    clear hb hl
    go_wp2_with fail
    refine (changes_any A A' n c n' c' ws ss w1 HT1.out (by omega) (by omega) Hl.out).mono ?_
    rintro e w2 ⟨⟨ch, rfl⟩, hb2⟩
    have HB2 := Lib.hid (HB1.out.stay hb2)
    have HT2 := Lib.hid ((HT1.out.below hb2).more hb2.size)
    have HL2 := Lib.hid (HL1.out.trans (hb2.mono HL1.out.size))
    clear hb2 g0 g1 HB1 HT1 HL1
    have g0 := HB2.out.cell 0
    have g1 := HB2.out.cell 1
    by_cases hch : 2000 < ch
    · go_wp2_with fail
      refine (awake_any w2).mono ?_
      rintro e w3 ⟨rfl, hb3⟩
      have HL3 := Lib.hid (HL2.out.trans (hb3.mono HL2.out.size))
      clear hb3
      go_wp2
      go_ret
      exact ⟨rfl, HL3.out⟩
    go_wp2_with fail
    refine (spans_any A A' n c n' c' ws ss w2 HT2.out (by omega) (by omega) Hl9.out Hw.out).mono ?_
    rintro e w3 ⟨⟨A5, n5, c5, l, rfl, hr5, hc5, hn5, hs5, he5⟩, hb3⟩
    have HB3 := Lib.hid (HB2.out.stay hb3)
    have HT3 := Lib.hid ((HT2.out.below hb3).more hb3.size)
    have HL3 := Lib.hid (HL2.out.trans (hb3.mono HL2.out.size))
    have HR5 := Lib.hid hr5
    have HS5 := Lib.hid hs5
    have HE5 := Lib.hid he5
    clear hb3 g0 g1 HB2 HT2 HL2 hr5 hs5 he5
    have g0 := HB3.out.cell 0
    have g1 := HB3.out.cell 1
    go_wp2_with fail
    refine (refspans_any A A' n c n' c' ws ss w3 HT3.out (by omega) (by omega) Hl.out).mono ?_
    rintro e w4 ⟨⟨A6, n6, c6, l', rfl, hr6, hc6, hn6, hs6, he6⟩, hb4⟩
    have hll := spn_same hs6 he6 HS5.out HE5.out
    subst hll
    have HB4 := Lib.hid (HB3.out.stay hb4)
    have HT4 := Lib.hid ((HT3.out.below hb4).more hb4.size)
    have HL4 := Lib.hid (HL3.out.trans (hb4.mono HL3.out.size))
    have HR54 := Lib.hid ((HR5.out.below hb4).more hb4.size)
    have HR6 := Lib.hid hr6
    clear hb4 g0 g1 HB3 HT3 HL3 hr6 hs6 he6 HR5
    have g0 := HB4.out.cell 0
    have g1 := HB4.out.cell 1
    go_wp2_with fail
    refine (sameSpans_any A5 A6 n5 c5 n6 c6 l' w4 HR54.out HR6.out (by omega)).mono ?_
    rintro e w5 ⟨rfl, q, hq⟩
    have hb5 : Below w4.heap.size w4 w5 := by rw [hq]; exact below_drewN (Below.refl _ _) q
    have HB5 := Lib.hid (HB4.out.stay hb5)
    have HT5 := Lib.hid ((HT4.out.below hb5).more hb5.size)
    have HL5 := Lib.hid (HL4.out.trans (hb5.mono HL4.out.size))
    have HR5 := Lib.hid ((HR54.out.below hb5).more hb5.size)
    clear hq hb5 g0 g1 HB4 HT4 HL4 HR54 HR6
    have g0 := HB5.out.cell 0
    have g1 := HB5.out.cell 1
    go_wp2_with fail
    refine (refvalidT_any A A' n c n' c' ws ss w5 HT5.out (by omega) (by omega) Hl9.out).mono ?_
    rintro e w6 ⟨⟨b, rfl, hb⟩, hb6⟩
    have HB6 := Lib.hid (HB5.out.stay hb6)
    have HT6 := Lib.hid ((HT5.out.below hb6).more hb6.size)
    have HL6 := Lib.hid (HL5.out.trans (hb6.mono HL5.out.size))
    have HR6 := Lib.hid ((HR5.out.below hb6).more hb6.size)
    have Hb := Lib.hid hb
    clear hb6 hb g0 g1 HB5 HT5 HL5 HR5
    have g0 := HB6.out.cell 0
    have g1 := HB6.out.cell 1
    cases b with
    | false =>
      go_wp2_with fail
      refine (awake_any w6).mono ?_
      rintro e w7 ⟨rfl, hb7⟩
      have HL7 := Lib.hid (HL6.out.trans (hb7.mono HL6.out.size))
      clear hb7
      go_wp2
      go_ret
      exact ⟨rfl, HL7.out⟩
    | true =>
      have hok := Hb.out.1 rfl
      have Hok := Lib.hid hok
      have hsv := HS5.out hok
      have HSV := Lib.hid hsv
      clear hok hsv
      go_wp2_with fail
      refine (build_any A5 n5 c5 l' A n c ws w6 HR6.out HT6.out.widths (by omega) HT6.out.cap (by omega) (sinv_w64 HSV.out Hw.out)).mono ?_
      rintro e w7 ⟨hE, hb7⟩
      have HB7 := Lib.hid (HB6.out.stay hb7)
      have HT7 := Lib.hid ((HT6.out.below hb7).more hb7.size)
      have HL7 := Lib.hid (HL6.out.trans (hb7.mono HL6.out.size))
      clear hb7 g0 g1 HB6 HT6 HL6 HR6
      rcases buildE_cases hE with ⟨r, hr0, hr, rfl⟩ | ⟨hr, A3, d3, A4, d4, ss', rfl, hT', hC⟩
      · exact absurd (chk_ok HSV.out.ok Hok.out.1 hr) hr0
      have hss : ss' = ss := okT_uniq hC.ok Hok.out (fun c hc => (hC.val c hc).trans (HSV.out.val c hc))
      subst hss
      have HT3 := Lib.hid hT'
      clear hE hr hT' hC
      have g0 := HB7.out.cell 0
      have g1 := HB7.out.cell 1
      have hbn := (Below.refl w7.heap.size w7).alloc (Nat.le_refl _) (.cells #[.slice A3 n d3, .slice A4 (n + 1) d4] 28)
      have HB8 := Lib.hid (HB7.out.stay hbn)
      have HT8 := Lib.hid ((HT7.out.below hbn).more hbn.size)
      have HT38 := Lib.hid ((HT3.out.below hbn).more hbn.size)
      have HL8 := Lib.hid (HL7.out.trans (hbn.mono HL7.out.size))
      clear hbn
      have k0 := HB8.out.cell 0
      have k1 := HB8.out.cell 1
      have hlt8 := HB7.out.lt
      have hne8 : ¬ w.heap.size = w7.heap.size := by omega
      go_wp2_with fail
      refine (sameTab_any A A' n c n' c' A3 A4 n d3 (n + 1) d4 ws ss' _ HT8.out HT38.out (by omega) (by omega) Hl9.out).mono ?_
      rintro e w9 ⟨rfl, hb9⟩
      have HL9 := Lib.hid (HL8.out.trans (hb9.mono HL8.out.size))
      clear hb9
      go_wp2_with fail
      refine (awake_any w9).mono ?_
      rintro e w10 ⟨rfl, hb10⟩
      have HL10 := Lib.hid (HL9.out.trans (hb10.mono HL9.out.size))
      clear hb10
      go_wp2
      go_ret
      exact ⟨rfl, HL10.out⟩
end Go.Proofs.Ytnlmikefihaldaa

/- multistage.Valid. -/
import Derived.Test.YtnlmikefihaldaaTw
import Derived.Deep.RegionHeld3
namespace Go.Proofs.Ytnlmikefihaldaa
open Go.RowKit

theorem shr_int (s : Nat) : ((1114112 / 2 ^ s : Nat) : Int) = 1114112 / 2 ^ s := by
  rw [Int.natCast_ediv, Int.natCast_pow]; rfl
theorem pow_wrap (x : Nat) (h : x ≤ 12) : IntKind.i64.wrap ((2 : Int) ^ x) = ((2 ^ x : Nat) : Int) := by
  have hp2 : 2 ^ x ≤ 4096 := Nat.le_trans (Nat.pow_le_pow_right (n := 2) (by decide) h) (by decide)
  have e : ((2 ^ x : Nat) : Int) = (2 : Int) ^ x := by rw [Int.natCast_pow]; rfl
  rw [← e]
  generalize 2 ^ x = m at hp2
  exact IntWalk.i64_in _ (by omega)
theorem add_zero_ (a : Addr) : a.add 0 = a := by unfold Addr.add; simp
theorem add_succ_ (a : Addr) (k : Nat) : a.add (k + 1) = ⟨a.block, a.off + (k + 1), none⟩ := by unfold Addr.add; simp
theorem okT_no {ws : List Int} {ss : List (List Int)} (h : ¬ okW ws) : ¬ okT ws ss := fun ho => h ho.1

set_option maxRecDepth 100000 in
set_option maxHeartbeats 4000000 in
theorem validT_any (A A' : Option Addr) (n c n' c' : Nat) (ws : List Int) (ss : List (List Int)) (w : World) (h : Tab w w.heap.size A n c A' n' c' ws ss) (hn : n ≤ 1000000000) (hn' : n' ≤ 1000000000) (hs : ∀ i, (stg ss i).length ≤ 1000000000) (hw : ∀ i, ∀ x ∈ stg ss i, W64 x) :
    Calls Try.prog 17 #[.agg #[.slice A n c, .slice A' n' c']] w fun e w' => Says e (okT ws ss) ∧ Below w.heap.size w w' := by
  obtain ⟨hl1, hl2⟩ := h.len
  have Hl1 := Lib.hid hl1
  have Hl2 := Lib.hid hl2
  have Hs := Lib.hid hs
  have Hw := Lib.hid hw
  have HB := Lib.hid (Blk.new w 28 #[.slice A n c, .slice A' n' c'])
  have hL : Below w.heap.size w (w.alloc (.cells #[.slice A n c, .slice A' n' c'] 28)) := (Below.refl _ w).alloc (Nat.le_refl _) _
  have HT := Lib.hid ((h.below hL).more (show w.heap.size ≤ (w.alloc (.cells #[.slice A n c, .slice A' n' c'] 28)).heap.size by simp))
  clear hl1 hl2 hs hw h
  have g0 := HB.out.cell 0
  have g1 := HB.out.cell 1
  go_enter Try.func17, Try.ntmps17
  go_wp2_with fail
  obtain ⟨W, hW⟩ : ∃ W, W = w.alloc (.cells #[.slice A n c, .slice A' n' c'] 28) := ⟨_, rfl⟩
  rw [← hW] at HB HT hL g0 g1 ⊢
  clear hW
  have HL := Lib.hid hL
  clear hL
  refine (validWidths_any A n c ws W HT.out.widths HT.out.cap hn).mono ?_
  rintro e w1 ⟨rfl, rfl⟩
  by_cases hok : okW ws
  · rw [decide_eq_true hok]
    have hn3 : 1 ≤ n ∧ n ≤ 3 := by have := hok.1; have := hok.2.1; have := Hl1.out; omega
    obtain ⟨hn1, hn3⟩ := hn3
    have Hok := Lib.hid hok
    clear hok
    by_cases hlen : n' = n + 1
    · subst hlen
      obtain ⟨ad, A2, c2, rfl, had, hc0, hcap0, hr0⟩ := HT.out.at_ (k := 0) (by omega)
      have C0 := Lib.hid (show ∀ q, Calls Try.prog 34 #[.slice A n c, .int .i64 0] (w1.drewN q) fun e w' => e = .returned (.int .i64 ws.sum) ∧ w' = w1.drewN q from fun q =>
        (sumT_any A n c 0 ws (w1.drewN q) (HT.out.widths.drewN q) HT.out.cap hn3 (by omega) Hok.out.2.2.1).mono fun e w' ⟨h1, h2⟩ => ⟨by rw [h1, List.drop_zero], h2⟩)
      have hl0 := Hs.out 0
      have hsum : 0 ≤ ws.sum ∧ ws.sum ≤ 16 := by have := Hok.out.2.2.2; omega
      obtain ⟨s, hs⟩ := Int.eq_ofNat_of_zero_le hsum.1
      have Hsum := Lib.hid hs
      rw [hs] at C0
      have hs16 : s ≤ 16 := by omega
      clear hsum hs hr0 hcap0
      obtain ⟨L0, hL0⟩ : ∃ L0, L0 = (stg ss 0).length := ⟨_, rfl⟩
      rw [← hL0] at hc0 hl0
      rw [add_zero_] at hc0
      have HL0 := Lib.hid hL0
      clear hL0
      go_wp2_with fail
      have hpos : (0 : Int) < (n : Int) + 1 := by omega
      by_cases hq : L0 = 1114112 / 2 ^ s
      · go_quiet ((go_at_call 34; exact Calls.quiet_of_same (C0.out _)))
        have HL0' := Lib.hid (show (stg ss 0).length = 1114112 / 2 ^ ws.sum.toNat by rw [← HL0.out, hq, Hsum.out]; rfl)
        clear hq
        go_wp2
        obtain ⟨W, hW⟩ : ∃ W, W = w1.drewN nq := ⟨_, rfl⟩
        have HB1 := Lib.hid (HB.out.drewN nq)
        have HT1 := Lib.hid (show Tab (w1.drewN nq) w1.heap.size A n c (some ad) (n + 1) c' ws ss from HT.out.keep fun _ _ => rfl)
        have HL1 := Lib.hid (below_drewN HL.out nq)
        have hsz : w1.heap.size = (w1.drewN nq).heap.size := rfl
        rw [← hW] at HB1 HT1 HL1 hsz ⊢
        rw [hsz] at HT1
        clear hW hsz C0 g0 g1 hc0 hl0 had
        go_loopw [32] (fun i wr => ∃ k : Nat, k ≤ n ∧ i = .int .i64 (k : Int) ∧ Hid (∀ j, j < k → refersP (stg ss j) (stg ss (j + 1)) (2 ^ wd ws j)) ∧ Below W.heap.size W wr) (fun i _ => n - (intOf i).toNat)
        case atStart => exact ⟨0, by omega, rfl, Lib.hid (fun j hj => absurd hj (by omega)), Below.refl _ _⟩
        case round =>
          obtain ⟨k, hk, rfl, Hk, hb⟩ := hrel
          have HBk := Lib.hid (HB1.out.below hb HB1.out.lt)
          have HTk := Lib.hid (HT1.out.below hb)
          have g0 := HBk.out.cell 0
          have g1 := HBk.out.cell 1
          by_cases hlt : k < n
          · obtain ⟨ad1, A1, c1, e1, had1, hc1, hcap1, hr1⟩ := HTk.out.at_ (k := k) (by omega)
            obtain ⟨ad3, A3, c3, e3, had3, hc3, hcap3, hr3⟩ := HTk.out.at_ (k := k + 1) (by omega)
            obtain ⟨ad4, x, rfl, had4, hc4, hx, hx1, hx2⟩ := HTk.out.width Hok.out hlt
            injection e1 with e1
            injection e3 with e3
            subst e1
            subst e3
            have hp : 1 ≤ 2 ^ x := Nat.one_le_two_pow
            have hp2 : 2 ^ x ≤ 4096 := Nat.le_trans (Nat.pow_le_pow_right (n := 2) (by decide) hx2) (by decide)
            have CR := Lib.hid (show ∀ u, Below wr.heap.size wr u → Calls Try.prog 44 #[.slice A1 (stg ss k).length c1, .slice A3 (stg ss (k + 1)).length c3, .int .i64 (IntKind.i64.wrap (2 ^ x))] u fun e w' => Says e (refersP (stg ss k) (stg ss (k + 1)) (2 ^ x)) ∧ Below wr.heap.size wr w' from fun u hu => by
              rw [pow_wrap x hx2]
              exact (refers_any A1 A3 _ c1 _ c3 (2 ^ x) _ _ u (((hr1.more hb.size).below hu).more hu.size) (((hr3.more hb.size).below hu).more hu.size) hcap3 (Hs.out _) (Hs.out _) hp hp2 (Hw.out _)).mono fun e w' ⟨h1, h2⟩ => ⟨h1, hu.trans (h2.mono hu.size)⟩)
            have Hx := Lib.hid hx
            have hlk := Hs.out k
            have hlk1 := Hs.out (k + 1)
            clear hx hr1 hr3 hcap1 hcap3 hp hp2
            obtain ⟨L1, hL1⟩ : ∃ L, L = (stg ss k).length := ⟨_, rfl⟩
            obtain ⟨L3, hL3⟩ : ∃ L, L = (stg ss (k + 1)).length := ⟨_, rfl⟩
            rw [← hL1] at hc1 hlk CR
            rw [← hL3] at hc3 hlk1 CR
            clear hL1 hL3
            have hkn1 : (k : Int) < (n : Int) + 1 := by omega
            have hk0 : (0 : Int) ≤ (k : Int) + 1 := by omega
            rw [add_succ_] at hc3
            have hbS : Below wr.heap.size wr wr.drew := (Below.refl _ _).drew
            have hkn2 : (k : Int) + 1 < (n : Int) + 1 := by omega
            have hwr : IntKind.i64.wrap ((k : Int) + 1) = (k : Int) + 1 := IntWalk.i64_in _ (by omega)
            go_wp2_with fail
            have K := Lib.hid (show ∀ u, Below wr.heap.size wr u → u.cell? ⟨w.heap.size, 1, none⟩ = some (.slice (some ad) (n + 1) c') ∧ u.cell? (ad.add k) = some (.slice A1 L1 c1) ∧ u.cell? ⟨ad.block, ad.off + (k + 1), none⟩ = some (.slice A3 L3 c3) from fun u hu =>
              ⟨(hu.cell HBk.out.lt).trans g1, (hu.cell (by rw [block_of_add]; have := hb.size; omega)).trans hc1, (hu.cell (by have := hb.size; simp; omega)).trans hc3⟩)
            go_region_held3 (fun u => Below wr.heap.size wr u ∧ u.cell? ⟨w.heap.size, 1, none⟩ = some (.slice (some ad) (n + 1) c') ∧ u.cell? (ad.add k) = some (.slice A1 L1 c1) ∧ u.cell? ⟨ad.block, ad.off + (k + 1), none⟩ = some (.slice A3 L3 c3)) (first | exact ⟨hbS, K.out _ hbS⟩ | exact ⟨(Below.refl _ _).drew, K.out _ (Below.refl _ _).drew⟩) (first | (go_at_call 44; (with_reducible refine (CR.out _ hbS).mono ?_); rintro e w2 ⟨hsay, hb2⟩; obtain ⟨r, rfl, hr⟩ := hsay; clear hbS; have hbS := hb2; clear hb2))
            cases r with
            | true =>
              have Hk2 : Hid (∀ j, j < k + 1 → refersP (stg ss j) (stg ss (j + 1)) (2 ^ wd ws j)) := by
                intro j hj
                rcases Nat.lt_or_eq_of_le (Nat.le_of_lt_succ hj) with h1 | h1
                · exact Hk.out j h1
                · subst h1; rw [← Hx.out]; exact hr.1 rfl
              go_wp2
              go_roundw
              case rel => exact ⟨k + 1, by omega, by go_num, Hk2, hb.trans (hbS.mono hb.size)⟩
              case measure => simp [intOf]; omega
            | false =>
              have H := Lib.hid (show ¬ okT ws ss from fun ho => by
                have := ho.2.2.2 k (by have := Hl1.out; omega)
                rw [← Hx.out] at this
                have := hr.2 this
                cases this)
              go_wp2
              go_ret
              exact ⟨Says.no rfl H.out, HL1.out.trans ((hb.trans (hbS.mono hb.size)).mono HL1.out.size)⟩
          · have H := Lib.hid (show okT ws ss from ⟨Hok.out, by rw [Hl1.out, Hl2.out], HL0'.out, fun j hj => Hk.out j (by have := Hl1.out; omega)⟩)
            go_wp2
            go_ret
            exact ⟨Says.yes rfl H.out, HL1.out.trans (hb.mono HL1.out.size)⟩
      · have H := Lib.hid (show ¬ okT ws ss from fun ho => hq (by rw [HL0.out, ho.2.2.1, Hsum.out]; rfl))
        go_quiet ((go_at_call 34; exact Calls.quiet_of_same (C0.out _)))
        have hqd : ((L0 : Int) != 1114112 / 2 ^ s) = true := bne_iff_ne.2 (fun e => hq (by rw [← shr_int s] at e; exact Int.ofNat.inj e))
        clear hq
        go_wp2
        go_ret
        exact ⟨Says.no rfl H.out, below_drewN HL.out _⟩
    · have hne : ((n' : Int) != (n : Int) + 1) = true := by simp; omega
      have H := Lib.hid (show ¬ okT ws ss from fun ho => hlen (by have := ho.2.1; have := Hl1.out; have := Hl2.out; omega))
      clear hlen
      go_wp2
      go_ret
      exact ⟨Says.no rfl H.out, HL.out⟩
  · rw [decide_eq_false hok]
    have H := Lib.hid (show ¬ okT ws ss from okT_no hok)
    clear hok
    go_wp2
    go_ret
    exact ⟨Says.no rfl H.out, HL.out⟩
end Go.Proofs.Ytnlmikefihaldaa

/- The reference's Formed. -/
import Derived.Test.YtnlmikefihaldaaTr
namespace Go.Proofs.Ytnlmikefihaldaa
open Go.RowKit

theorem wrap64_eq (x : Int) : IntKind.i64.wrap x = wrap64 x := by rw [IntKind.wrap_i64, wrap64]
theorem bits_yes {ws : List Int} (h : okW ws) : bitsV ws = ws.sum := if_pos h
theorem bits_no {ws : List Int} (h : ¬ okW ws) : bitsV ws = 0 := if_neg h

set_option maxRecDepth 100000 in
set_option maxHeartbeats 4000000 in
theorem formed_any (A A' : Option Addr) (n c n' c' : Nat) (ws : List Int) (ss : List (List Int)) (w : World) (h : Tab w w.heap.size A n c A' n' c' ws ss) (hn : n ≤ 1000000000) (hn' : n' ≤ 1000000000) (hs : ∀ i, (stg ss i).length ≤ 1000000000) :
    Calls Try.prog 23 #[.agg #[.slice A n c, .slice A' n' c']] w fun e w' => Says e (formedT ws ss) ∧ Below w.heap.size w w' := by
  obtain ⟨hl1, hl2⟩ := h.len
  have Hl1 := Lib.hid hl1
  have Hl2 := Lib.hid hl2
  have Hs := Lib.hid hs
  have HB := Lib.hid (Blk.new w 28 #[.slice A n c, .slice A' n' c'])
  have hL : Below w.heap.size w (w.alloc (.cells #[.slice A n c, .slice A' n' c'] 28)) := (Below.refl _ w).alloc (Nat.le_refl _) _
  have HT := Lib.hid ((h.below hL).more (show w.heap.size ≤ (w.alloc (.cells #[.slice A n c, .slice A' n' c'] 28)).heap.size by simp))
  clear hl1 hl2 hs h
  have g0 := HB.out.cell 0
  have g1 := HB.out.cell 1
  go_enter Try.func23, Try.ntmps23
  go_wp2_with fail
  obtain ⟨W, hW⟩ : ∃ W, W = w.alloc (.cells #[.slice A n c, .slice A' n' c'] 28) := ⟨_, rfl⟩
  rw [← hW] at HB HT hL g0 g1 ⊢
  clear hW
  have HL := Lib.hid hL
  clear hL
  refine (bits_any A n c ws W HT.out.widths hn).mono ?_
  rintro e w1 ⟨rfl, rfl⟩
  by_cases hok : okW ws
  · rw [bits_yes hok]
    have hn3 : 1 ≤ n ∧ n ≤ 3 := by have := hok.1; have := hok.2.1; have := Hl1.out; omega
    obtain ⟨hn1, hn3⟩ := hn3
    have hsum : 9 ≤ ws.sum ∧ ws.sum ≤ 16 := hok.2.2.2
    obtain ⟨s, hs⟩ := Int.eq_ofNat_of_zero_le (a := ws.sum) (by omega)
    have Hsum := Lib.hid hs
    rw [hs] at hsum ⊢
    have hs16 : s ≤ 16 := by omega
    have hs9 : 9 ≤ s := by omega
    have Hok := Lib.hid hok
    have hsz : ((s : Int) == 0) = false := by simp; omega
    clear hok hsum hs
    by_cases hlen : n' = n + 1
    · subst hlen
      obtain ⟨ad, A2, c2, rfl, had, hc0, hcap0, hr0⟩ := HT.out.at_ (k := 0) (by omega)
      have hl0 := Hs.out 0
      clear hr0 hcap0
      obtain ⟨L0, hL0⟩ : ∃ L0, L0 = (stg ss 0).length := ⟨_, rfl⟩
      rw [← hL0] at hc0 hl0
      rw [add_zero_] at hc0
      have HL0 := Lib.hid hL0
      clear hL0
      go_wp2_with fail
      have hpos : (0 : Int) < (n : Int) + 1 := by omega
      have hlq : (((n : Int) + 1) != (n : Int) + 1) = false := by simp
      have hw1 : IntKind.i64.wrap ((n : Int) + 1) = (n : Int) + 1 := IntWalk.i64_in _ (by omega)
      by_cases hq : L0 = 1114112 / 2 ^ s
      · have HL0' := Lib.hid (show (stg ss 0).length = 1114112 / 2 ^ ws.sum.toNat by rw [← HL0.out, hq, Hsum.out]; rfl)
        have hqd : ((L0 : Int) != 1114112 / 2 ^ s) = false := by rw [hq, shr_int]; simp
        clear hq
        go_quiet (fail)
        go_wp2
        clear hqd hlq hw1 hpos hc0 hl0 had hsz
        go_loopw [4] (fun i wr => ∃ k q : Nat, k ≤ n ∧ i = .int .i64 ((k : Int) + 1) ∧ Hid (∀ j, j < k → formedAt ws ss j) ∧ wr = w1.drewN q) (fun i _ => n + 1 - (intOf i).toNat)
        case atStart => exact ⟨0, _, by omega, rfl, Lib.hid (fun j hj => absurd hj (by omega)), rfl⟩
        case round =>
          obtain ⟨k, q, hk, rfl, Hk, rfl⟩ := hrel
          by_cases hlt : k < n
          · obtain ⟨ad1, A1, c1, e1, had1, hc1, hcap1, hr1⟩ := HT.out.at_ (k := k) (by omega)
            obtain ⟨ad3, A3, c3, e3, had3, hc3, hcap3, hr3⟩ := HT.out.at_ (k := k + 1) (by omega)
            obtain ⟨ad4, x, rfl, had4, hc4, hx, hx1, hx2⟩ := HT.out.width Hok.out hlt
            injection e1 with e1
            injection e3 with e3
            subst e1
            subst e3
            rw [add_succ_] at hc3
            have Hx := Lib.hid hx
            have Hr1 := Lib.hid hr1
            have hlk := Hs.out k
            have hlk1 := Hs.out (k + 1)
            clear hx hr1 hr3 hcap1 hcap3 had1 had3 had4
            obtain ⟨L1, hL1⟩ : ∃ L, L = (stg ss k).length := ⟨_, rfl⟩
            obtain ⟨L3, hL3⟩ : ∃ L, L = (stg ss (k + 1)).length := ⟨_, rfl⟩
            rw [← hL1] at hc1 hlk Hr1
            rw [← hL3] at hc3 hlk1
            have HL1 := Lib.hid hL1
            have HL3 := Lib.hid hL3
            clear hL1 hL3
            obtain ⟨M, hM⟩ : ∃ M : Nat, M = 2 ^ x := ⟨_, rfl⟩
            have hp2 : M ≤ 4096 := by rw [hM]; exact Nat.le_trans (Nat.pow_le_pow_right (n := 2) (by decide) hx2) (by decide)
            have hp1 : 1 ≤ M := by rw [hM]; exact Nat.one_le_two_pow
            have hpw : wrap64 ((2 : Int) ^ x) = (M : Int) := by
              have := pow_wrap x hx2
              rw [← hM] at this
              exact (wrap64_eq _).symm.trans this
            have hM0 : ¬ (M : Int) = 0 := by omega
            have HM := Lib.hid hM
            clear hM
            have Hat := Lib.hid (show formedAt ws ss k ↔ L3 % M = 0 ∧ ∀ y ∈ stg ss k, 0 ≤ y ∧ y < ((L3 / M : Nat) : Int) by unfold formedAt; rw [← Hx.out, ← HM.out, ← HL3.out])
            by_cases hmod : L3 % M = 0
            · have hmd : ((L3 : Int) % (M : Int) != 0) = false := by rw [← Int.natCast_emod, hmod]; rfl
              have hD9 : L3 / M ≤ 1000000000 := Nat.le_trans (Nat.div_le_self _ _) hlk1
              obtain ⟨D, hD⟩ : ∃ D, D = L3 / M := ⟨_, rfl⟩
              have hdiv : ((L3 : Int) / (M : Int)) = (D : Int) := by rw [hD, Int.natCast_ediv]
              have hdiv2 : (L3 : Int).tdiv (M : Int) = (D : Int) := by rw [Int.tdiv_eq_ediv_of_nonneg (by omega)]; exact hdiv
              have hwD : IntKind.i64.wrap (D : Int) = (D : Int) := IntWalk.i64_in _ (by omega)
              rw [← hD] at hD9
              have HD := Lib.hid hD
              have Hmod := Lib.hid hmod
              clear hD hmod
              go_wp2
              simp only [hpw]
              clear hpw hmd
              go_loopw [6] (fun i wr => ∃ j r : Nat, j ≤ L1 ∧ i = .int .i64 (j : Int) ∧ Hid (∀ y ∈ (stg ss k).take j, 0 ≤ y ∧ y < (D : Int)) ∧ wr = w1.drewN r) (fun i _ => L1 - (intOf i).toNat)
              case atStart => exact ⟨0, _, by omega, rfl, Lib.hid (fun y hy => by simp at hy), rfl⟩
              case round =>
                obtain ⟨j, r, hj, rfl, Hj, rfl⟩ := hrel
                by_cases hjl : j < L1
                · obtain ⟨ad5, u, rfl, _, hu, hcell⟩ := Hr1.out.at_ hjl
                  obtain ⟨y, hy, rfl⟩ := getElem_map_iv' hu
                  clear hu
                  have hj0 : (0 : Int) ≤ (j : Int) := by omega
                  have hjn : (j : Int) < (L1 : Int) := by omega
                  have hwk : IntKind.i64.wrap ((k : Int) + 1 - 1) = (k : Int) := by rw [Int.add_sub_cancel]; exact IntWalk.i64_in _ (by omega)
                  have hk0 : (0 : Int) ≤ (k : Int) := by omega
                  have hkn : (k : Int) < (n : Int) + 1 := by omega
                  have hk10 : (0 : Int) ≤ (k : Int) + 1 := by omega
                  have hkn1 : (k : Int) + 1 < (n : Int) + 1 := by omega
                  by_cases q1 : y < 0
                  · have H := Lib.hid (show ¬ formedT ws ss from fun ho => by
                      have := ((Hat.out.1 (ho.2.2.2 k (by have := Hl1.out; omega))).2 y (List.mem_of_getElem? hy)).1
                      omega)
                    clear hy
                    go_wp2_with fail
                    go_quiet (fail)
                    go_wp2
                    go_ret
                    exact ⟨Says.no rfl H.out, below_drewN (below_drewN HL.out _) _⟩
                  · have q1d : decide (y < 0) = false := by simpa using q1
                    by_cases q2 : (D : Int) ≤ y
                    · have H := Lib.hid (show ¬ formedT ws ss from fun ho => by
                        have := ((Hat.out.1 (ho.2.2.2 k (by have := Hl1.out; omega))).2 y (List.mem_of_getElem? hy)).2
                        rw [← HD.out] at this
                        omega)
                      clear hy
                      go_wp2_with fail
                      go_quiet (fail)
                      go_wp2
                      go_ret
                      exact ⟨Says.no rfl H.out, below_drewN (below_drewN HL.out _) _⟩
                    · have q2d : decide ((D : Int) ≤ y) = false := by simpa using q2
                      have H : Hid (∀ z ∈ (stg ss k).take (j + 1), 0 ≤ z ∧ z < (D : Int)) := take_all_mem hy Hj.out ⟨by omega, by omega⟩
                      clear hy
                      go_wp2_with fail
                      go_quiet (fail)
                      go_wp2
                      go_roundw
                      case rel => exact ⟨j + 1, _, by omega, by go_num, H, rfl⟩
                      case measure => simp [intOf]; omega
                · have Hk2 : Hid (∀ j, j < k + 1 → formedAt ws ss j) := by
                    intro i hi
                    rcases Nat.lt_or_eq_of_le (Nat.le_of_lt_succ hi) with h1 | h1
                    · exact Hk.out i h1
                    · subst h1
                      have := Hj.out
                      rw [List.take_of_length_le (by have := HL1.out; omega)] at this
                      exact Hat.out.2 ⟨Hmod.out, by rw [← HD.out]; exact this⟩
                  go_wp2
                  go_roundw
                  case rel => exact ⟨k + 1, _, by omega, by go_num, Hk2, rfl⟩
                  case measure => simp [intOf]; omega
            · have hmd : ((L3 : Int) % (M : Int) != 0) = true := bne_iff_ne.2 (fun e => hmod (by rw [← Int.natCast_emod] at e; exact Int.ofNat.inj e))
              have H := Lib.hid (show ¬ formedT ws ss from fun ho => hmod (Hat.out.1 (ho.2.2.2 k (by have := Hl1.out; omega))).1)
              clear hmod
              go_wp2
              go_ret
              exact ⟨Says.no rfl H.out, below_drewN HL.out _⟩
          · have H := Lib.hid (show formedT ws ss from ⟨Hok.out, by rw [Hl1.out, Hl2.out], HL0'.out, fun j hj => Hk.out j (by have := Hl1.out; omega)⟩)
            go_wp2
            go_ret
            exact ⟨Says.yes rfl H.out, below_drewN HL.out _⟩
      · have H := Lib.hid (show ¬ formedT ws ss from fun ho => hq (by rw [HL0.out, ho.2.2.1, Hsum.out]; rfl))
        have hqd : ((L0 : Int) != 1114112 / 2 ^ s) = true := bne_iff_ne.2 (fun e => hq (by rw [← shr_int s] at e; exact Int.ofNat.inj e))
        clear hq
        go_quiet (fail)
        go_wp2
        go_ret
        exact ⟨Says.no rfl H.out, below_drewN HL.out _⟩
    · have hne : ((n' : Int) != (n : Int) + 1) = true := by simp; omega
      have H := Lib.hid (show ¬ formedT ws ss from fun ho => hlen (by have := ho.2.1; have := Hl1.out; have := Hl2.out; omega))
      have hw1 : IntKind.i64.wrap ((n : Int) + 1) = (n : Int) + 1 := IntWalk.i64_in _ (by omega)
      clear hlen
      go_wp2_with fail
      go_quiet (fail)
      go_wp2
      go_ret
      exact ⟨Says.no rfl H.out, below_drewN HL.out _⟩
  · rw [bits_no hok]
    have H := Lib.hid (show ¬ formedT ws ss from fun ho => hok ho.1)
    clear hok
    go_wp2_with fail
    go_quiet (fail)
    go_wp2
    go_ret
    exact ⟨Says.no rfl H.out, below_drewN HL.out _⟩
end Go.Proofs.Ytnlmikefihaldaa

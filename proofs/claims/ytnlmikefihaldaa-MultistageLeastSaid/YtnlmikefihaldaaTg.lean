/- The reference's Valid (tables). -/
import Derived.Test.YtnlmikefihaldaaTf
namespace Go.Proofs.Ytnlmikefihaldaa
open Go.RowKit

theorem Reads.cut2 {w : World} {B n : Nat} {ad : Addr} {xs : List Value} (h : Reads w B 1 (some ad) n xs) {i m : Nat} (hi : i + m ≤ n) : Reads w B 1 (some (ad.add i)) m ((xs.drop i).take m) := by
  have := Reads.part_ h hi
  simpa using this

set_option maxRecDepth 100000 in
set_option maxHeartbeats 4000000 in
theorem refvalidT_any (A A' : Option Addr) (n c n' c' : Nat) (ws : List Int) (ss : List (List Int)) (w : World) (h : Tab w w.heap.size A n c A' n' c' ws ss) (hn : n ≤ 1000000000) (hn' : n' ≤ 1000000000) (hs : ∀ i, (stg ss i).length ≤ 1000000000) :
    Calls Try.prog 18 #[.agg #[.slice A n c, .slice A' n' c']] w fun e w' => Says e (okT ws ss) ∧ Below w.heap.size w w' := by
  obtain ⟨hl1, hl2⟩ := h.len
  have Hl1 := Lib.hid hl1
  have Hl2 := Lib.hid hl2
  have Hs := Lib.hid hs
  have HB := Lib.hid (Blk.new w 28 #[.slice A n c, .slice A' n' c'])
  have hL : Below w.heap.size w (w.alloc (.cells #[.slice A n c, .slice A' n' c'] 28)) := (Below.refl _ w).alloc (Nat.le_refl _) _
  have HT := Lib.hid ((h.below hL).more (show w.heap.size ≤ (w.alloc (.cells #[.slice A n c, .slice A' n' c'] 28)).heap.size by simp))
  clear hl1 hl2 hs h
  have g0 := HB.out.cell 0
  have g1 := HB.out.cell 1
  go_enter Try.func18, Try.ntmps18
  go_wp2_with fail
  obtain ⟨W, hW⟩ : ∃ W, W = w.alloc (.cells #[.slice A n c, .slice A' n' c'] 28) := ⟨_, rfl⟩
  rw [← hW] at HB HT hL g0 g1 ⊢
  clear hW
  have HL := Lib.hid hL
  clear hL g0 g1
  refine (formed_any A A' n c n' c' ws ss W HT.out hn hn' Hs.out).mono ?_
  rintro e w1 ⟨⟨r, rfl, hr⟩, hb1⟩
  have HB1 := Lib.hid (HB.out.below hb1 HB.out.lt)
  have HT1 := Lib.hid ((HT.out.below hb1).more hb1.size)
  have HL1 := Lib.hid (HL.out.trans (hb1.mono HL.out.size))
  clear hb1 HB HT HL
  have g0 := HB1.out.cell 0
  have g1 := HB1.out.cell 1
  cases r with
  | false =>
    have H := Lib.hid (show ¬ okT ws ss from fun ho => by have := hr.2 (formed_of_ok ho); cases this)
    go_wp2
    go_ret
    exact ⟨Says.no rfl H.out, HL1.out⟩
  | true =>
    have hf : formedT ws ss := hr.1 rfl
    have Hok := Lib.hid hf.1
    have hn3 : 1 ≤ n ∧ n ≤ 3 := by have := hf.1.1; have := hf.1.2.1; have := Hl1.out; omega
    have hnn : n' = n + 1 := by have := hf.2.1; have := Hl1.out; have := Hl2.out; omega
    subst hnn
    obtain ⟨hn1, hn3⟩ := hn3
    have Hf := Lib.hid hf
    clear hf hr
    go_wp2
    clear g0 g1
    go_loopw [3] (fun i wr => ∃ k : Nat, k ≤ n ∧ i = .int .i64 ((k : Int) + 1) ∧ Hid (∀ j, j < k → tightAt ws ss j) ∧ Below w1.heap.size w1 wr) (fun i _ => n + 1 - (intOf i).toNat)
    case atStart => exact ⟨0, by omega, rfl, Lib.hid (fun j hj => absurd hj (by omega)), Below.refl _ _⟩
    case round =>
      obtain ⟨k, hk, rfl, Hk, hbk⟩ := hrel
      have HTk := Lib.hid (HT1.out.below hbk)
      have HBk := Lib.hid (HB1.out.below hbk HB1.out.lt)
      have g0 := HBk.out.cell 0
      have g1 := HBk.out.cell 1
      by_cases hlt : k < n
      · obtain ⟨ad1, A1, c1, e1, had1, hc1, hcap1, hr1⟩ := HTk.out.at_ (k := k) (by omega)
        obtain ⟨ad3, A3, c3, e3, had3, hc3, hcap3, hr3⟩ := HTk.out.at_ (k := k + 1) (by omega)
        obtain ⟨ad4, x, rfl, had4, hc4, hx, hx1, hx2⟩ := HTk.out.width Hok.out hlt
        rw [e3] at e1
        injection e1 with e1
        subst e1
        subst e3
        rw [add_succ_] at hc3
        have Hx := Lib.hid hx
        have Hr1 := Lib.hid (hr1.more hbk.size)
        have Hr3 := Lib.hid (hr3.keep (w' := w1) fun p hp => (hbk.cell hp).symm)
        have hlk := Hs.out k
        have hlk1 := Hs.out (k + 1)
        clear hx hr1 hr3 hcap1 had1 had3 had4
        obtain ⟨L1, hL1⟩ : ∃ L, L = (stg ss k).length := ⟨_, rfl⟩
        obtain ⟨L3, hL3⟩ : ∃ L, L = (stg ss (k + 1)).length := ⟨_, rfl⟩
        rw [← hL1] at hc1 hlk Hr1
        rw [← hL3] at hc3 hlk1 Hr3 hcap3
        have HL3 := Lib.hid hL3
        clear hL1 hL3
        obtain ⟨M, hM⟩ : ∃ M : Nat, M = 2 ^ x := ⟨_, rfl⟩
        have hp2 : M ≤ 4096 := by rw [hM]; exact Nat.le_trans (Nat.pow_le_pow_right (n := 2) (by decide) hx2) (by decide)
        have hp1 : 1 ≤ M := by rw [hM]; exact Nat.one_le_two_pow
        have hpw : wrap64 ((2 : Int) ^ x) = (M : Int) := by
          have := pow_wrap x hx2
          rw [← hM] at this
          exact (wrap64_eq _).symm.trans this
        have hM0 : ¬ (M : Int) = 0 := by omega
        have hM0b : ((M : Int) == 0) = false := by simp; omega
        have hM0' : ¬ M = 0 := by omega
        have HM := Lib.hid hM
        clear hM
        have hmod : L3 % M = 0 := by
          have := (Hf.out.2.2.2 k (by have := Hl1.out; omega)).1
          rw [← Hx.out, ← HM.out, ← HL3.out] at this
          exact this
        obtain ⟨D, hD⟩ : ∃ D, D = L3 / M := ⟨_, rfl⟩
        have hLD : L3 = D * M := by have := Nat.div_add_mod L3 M; rw [hmod, ← hD, Nat.add_zero, Nat.mul_comm] at this; exact this.symm
        have hD9 : D ≤ 1000000000 := by rw [hD]; exact Nat.le_trans (Nat.div_le_self _ _) hlk1
        have hdiv : ((L3 : Int) / (M : Int)) = (D : Int) := by rw [hD, Int.natCast_ediv]
        have hdiv2 : (L3 : Int).tdiv (M : Int) = (D : Int) := by rw [Int.tdiv_eq_ediv_of_nonneg (by omega)]; exact hdiv
        have hwD : IntKind.i64.wrap (D : Int) = (D : Int) := IntWalk.i64_in _ (by omega)
        have HD := Lib.hid hD
        have HLD := Lib.hid hLD
        clear hD hmod hLD
        have Hat := Lib.hid (show tightAt ws ss k ↔ scan 0 (stg ss k) = some D ∧ apart (stg ss (k + 1)) M D by unfold tightAt; rw [← Hx.out, ← HM.out, ← HL3.out, ← HD.out])
        have hk0 : (0 : Int) ≤ (k : Int) := by omega
        have hkn : (k : Int) < (n : Int) + 1 := by omega
        have hk10 : (0 : Int) ≤ (k : Int) + 1 := by omega
        have hkn1 : (k : Int) + 1 < (n : Int) + 1 := by omega
        have hwk : IntKind.i64.wrap (k : Int) = (k : Int) := IntWalk.i64_in _ (by omega)
        go_wp2_with fail
        simp only [hpw]
        by_cases hsc : scan 0 (stg ss k) = some D
        · have CF := Lib.hid (show ∀ t : Nat, Calls Try.prog 45 #[.slice A1 L1 c1, .int .i64 (D : Int)] (wr.drewN t) fun e w' => e = .returned (.bool true) ∧ w' = wr.drewN t from fun t => by
            refine (first_any A1 L1 c1 D (stg ss k) _ (Hr1.out.drewN t) hlk hD9).mono ?_
            rintro e w' ⟨⟨r, rfl, hr⟩, h2⟩
            rw [hr.2 hsc]; exact ⟨rfl, h2⟩)
          have Hsc := Lib.hid hsc
          clear hsc
          go_quiet ((go_at_call 45; exact Calls.quiet_of_same (CF.out _)))
          clear CF
          go_wp2
          go_loopw [6] (fun v wr => ∃ a p : Nat, a ≤ D ∧ v = .int .i64 (p : Int) ∧ Hid (p = a * M) ∧ Hid (apart (stg ss (k + 1)) M a) ∧ Below w1.heap.size w1 wr) (fun v _ => L3 - (intOf v).toNat)
          case atStart => exact ⟨0, 0, by omega, rfl, Lib.hid (by simp), Lib.hid (apart_zero _ _), below_drewN hbk _⟩
          case round =>
            obtain ⟨a, p, ha, rfl, Hp, Hap, hba⟩ := hrel
            by_cases halt : a < D
            · have hpl : p + M ≤ L3 := by
                rw [Hp.out, HLD.out, ← Nat.succ_mul]; exact Nat.mul_le_mul_right M halt
              have hplt : (p : Int) < (L3 : Int) := by omega
              go_wp2
              go_loopw [7] (fun v wr => ∃ b p' : Nat, b ≤ a ∧ v = .int .i64 (p' : Int) ∧ Hid (p' = b * M) ∧ Hid (∀ j, j < b → blk (stg ss (k + 1)) M j ≠ blk (stg ss (k + 1)) M a) ∧ Below w1.heap.size w1 wr) (fun v _ => p - (intOf v).toNat)
              case atStart => exact ⟨0, 0, by omega, rfl, Lib.hid (by simp), Lib.hid (fun j hj => absurd hj (by omega)), hba⟩
              case round =>
                obtain ⟨b, p', hb, rfl, Hp', Hne, hbb⟩ := hrel
                by_cases hblt : b < a
                · have hpp : p' + M ≤ p := by
                    rw [Hp'.out, Hp.out, ← Nat.succ_mul]; exact Nat.mul_le_mul_right M hblt
                  have hpplt : (p' : Int) < (p : Int) := by omega
                  obtain ⟨ad5, rfl⟩ : ∃ ad, A3 = some ad := by obtain ⟨ad, _, e, _⟩ := Hr3.out.at_ (k := 0) (by omega); exact ⟨ad, e⟩
                  have hA := ((Hr3.out.below hbb).more hbb.size).cut2 (i := p) (m := M) (by omega)
                  have hB := ((Hr3.out.below hbb).more hbb.size).cut2 (i := p') (m := M) (by omega)
                  rw [Hp.out, blk_iv, ← Hp.out] at hA
                  rw [Hp'.out, blk_iv, ← Hp'.out] at hB
                  have HA := Lib.hid hA
                  have HBb := Lib.hid hB
                  clear hA hB
                  have h1 : (0 : Int) ≤ (p : Int) := by omega
                  have h2 : (0 : Int) ≤ (p' : Int) := by omega
                  have h3 : IntKind.i64.wrap ((p : Int) + (M : Int)) = (p : Int) + (M : Int) := IntWalk.i64_in _ (by omega)
                  have h4 : IntKind.i64.wrap ((p' : Int) + (M : Int)) = (p' : Int) + (M : Int) := IntWalk.i64_in _ (by omega)
                  have h5 : (p : Int) + (M : Int) ≤ (c3 : Int) := by omega
                  have h6 : (p' : Int) + (M : Int) ≤ (c3 : Int) := by omega
                  have h7 : (p : Int) ≤ (p : Int) + (M : Int) := by omega
                  have h8 : (p' : Int) ≤ (p' : Int) + (M : Int) := by omega
                  have h9 : ¬ c3 = p := by omega
                  have h10 : ¬ c3 = p' := by omega
                  by_cases heq : blk (stg ss (k + 1)) M a = blk (stg ss (k + 1)) M b
                  · have CS := Lib.hid (show ∀ t : Nat, Calls Try.prog 43 #[.slice (some (ad5.add p)) M (c3 - p), .slice (some (ad5.add p')) M (c3 - p')] (wr.drewN t) fun e w' => e = .returned (.bool true) ∧ ∃ m, w' = (wr.drewN t).drewN m from fun t => by
                      refine (sameT_any _ _ M _ M _ _ _ _ (HA.out.drewN t) (HBb.out.drewN t) (by omega) (by omega)).mono ?_
                      rintro e w' ⟨⟨r, rfl, hr⟩, h2⟩
                      rw [hr.2 heq]; exact ⟨rfl, h2⟩)
                    have H := Lib.hid (show ¬ okT ws ss from not_ok_tight Hf.out (i := k) (by have := Hl1.out; omega) (fun ht => (Hat.out.1 ht).2 b a hblt halt heq.symm))
                    clear heq
                    go_wp2_with fail
                    go_quiet ((go_at_call 43; exact Calls.quiet_of (CS.out _)))
                    go_wp2
                    go_ret
                    exact ⟨Says.no rfl H.out, below_drewN (HL1.out.trans (hbb.mono HL1.out.size)) _⟩
                  · have CS := Lib.hid (show ∀ t : Nat, Calls Try.prog 43 #[.slice (some (ad5.add p)) M (c3 - p), .slice (some (ad5.add p')) M (c3 - p')] (wr.drewN t) fun e w' => e = .returned (.bool false) ∧ ∃ m, w' = (wr.drewN t).drewN m from fun t => by
                      refine (sameT_any _ _ M _ M _ _ _ _ (HA.out.drewN t) (HBb.out.drewN t) (by omega) (by omega)).mono ?_
                      rintro e w' ⟨⟨r, rfl, hr⟩, h2⟩
                      have : r = false := by cases r with | true => exact absurd (hr.1 rfl) heq | false => rfl
                      rw [this]; exact ⟨rfl, h2⟩)
                    have Hne2 : Hid (∀ j, j < b + 1 → blk (stg ss (k + 1)) M j ≠ blk (stg ss (k + 1)) M a) := by
                      intro j hj
                      rcases Nat.lt_or_eq_of_le (Nat.le_of_lt_succ hj) with h1 | h1
                      · exact Hne.out j h1
                      · subst h1; exact fun e => heq e.symm
                    clear heq
                    go_wp2_with fail
                    go_quiet ((go_at_call 43; exact Calls.quiet_of (CS.out _)))
                    go_wp2
                    go_roundw
                    case rel => exact ⟨b + 1, p' + M, by omega, by go_num, Lib.hid (by rw [Hp'.out, Nat.succ_mul]), Hne2, below_drewN hbb _⟩
                    case measure => simp [intOf]; omega
                · have Hap2 : Hid (apart (stg ss (k + 1)) M (a + 1)) := by
                    have hbae : b = a := by omega
                    have := Hne.out
                    rw [hbae] at this
                    exact apart_succ Hap.out this
                  have hpe : ¬ (p' : Int) < (p : Int) := by
                    have hbae : b = a := by omega
                    have : p' = p := by rw [Hp'.out, Hp.out, hbae]
                    omega
                  go_wp2
                  go_roundw
                  case rel => exact ⟨a + 1, p + M, by omega, by go_num, Lib.hid (by rw [Hp.out, Nat.succ_mul]), Hap2, hbb⟩
                  case measure => simp [intOf]; omega
            · have hpl : ¬ (p : Int) < (L3 : Int) := by
                have e : a = D := by omega
                have : p = L3 := by rw [Hp.out, HLD.out, e]
                omega
              have Hk2 : Hid (∀ j, j < k + 1 → tightAt ws ss j) := by
                intro i hi
                rcases Nat.lt_or_eq_of_le (Nat.le_of_lt_succ hi) with h1 | h1
                · exact Hk.out i h1
                · subst h1
                  have e : a = D := by omega
                  have := Hap.out
                  rw [e] at this
                  exact Hat.out.2 ⟨Hsc.out, this⟩
              go_wp2
              go_roundw
              case rel => exact ⟨k + 1, by omega, by go_num, Hk2, hba⟩
              case measure => simp [intOf]; omega
        · have CF := Lib.hid (show ∀ t : Nat, Calls Try.prog 45 #[.slice A1 L1 c1, .int .i64 (D : Int)] (wr.drewN t) fun e w' => e = .returned (.bool false) ∧ w' = wr.drewN t from fun t => by
            refine (first_any A1 L1 c1 D (stg ss k) _ (Hr1.out.drewN t) hlk hD9).mono ?_
            rintro e w' ⟨⟨r, rfl, hr⟩, h2⟩
            have : r = false := by cases r with | true => exact absurd (hr.1 rfl) hsc | false => rfl
            rw [this]; exact ⟨rfl, h2⟩)
          have H := Lib.hid (show ¬ okT ws ss from not_ok_tight Hf.out (i := k) (by have := Hl1.out; omega) (fun ht => hsc (Hat.out.1 ht).1))
          clear hsc
          go_quiet ((go_at_call 45; exact Calls.quiet_of_same (CF.out _)))
          go_wp2
          go_ret
          exact ⟨Says.no rfl H.out, below_drewN (HL1.out.trans (hbk.mono HL1.out.size)) _⟩
      · have H := Lib.hid (show okT ws ss from ok_of_tight Hf.out fun j hj => Hk.out j (by have := Hl1.out; omega))
        go_wp2
        go_ret
        exact ⟨Says.yes rfl H.out, HL1.out.trans (hbk.mono HL1.out.size)⟩
end Go.Proofs.Ytnlmikefihaldaa

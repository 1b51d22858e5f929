/- The reference's look, Get, Size. -/
import Derived.Test.YtnlmikefihaldaaMi
import Derived.Test.YtnlmikefihaldaaTg
namespace Go.Proofs.Ytnlmikefihaldaa
open Go.RowKit

set_option maxRecDepth 100000 in
set_option maxHeartbeats 4000000 in
theorem rlook_any (A A' : Option Addr) (n c n' c' : Nat) (ws : List Int) (ss : List (List Int)) (x : Nat) (w : World) (h : Tab w w.heap.size A n c A' n' c' ws ss) (ho : okT ws ss) (hl : ∀ i, (stg ss i).length ≤ 1000000000) (hx : x < 1114112) :
    Calls Try.prog 48 #[.agg #[.slice A n c, .slice A' n' c'], .int .i64 (x : Int)] w fun e w' => e = .returned (.int .i64 (look ws ss x)) ∧ Below w.heap.size w w' := by
  obtain ⟨hl1, hl2⟩ := h.len
  have hL : Below w.heap.size w (w.alloc (.cells #[.slice A n c, .slice A' n' c'] 28)) := (Below.refl _ w).alloc (Nat.le_refl _) _
  have HB := Lib.hid (Blk.new w 28 #[.slice A n c, .slice A' n' c'])
  have HT := Lib.hid ((h.below hL).more hL.size)
  have hw := ho.1
  have hn3 : 1 ≤ n ∧ n ≤ 3 := by have := hw.1; have := hw.2.1; omega
  have hnn : n' = n + 1 := by have := ho.2.1; omega
  obtain ⟨hn1, hn3⟩ := hn3
  subst hnn
  have Hl1 := Lib.hid hl1
  have Hl2 := Lib.hid hl2
  have Hw := Lib.hid hw
  have Hat := Lib.hid (walk_at ho hx)
  have Hlook := Lib.hid (walk_look hw ss x)
  have Hln := Lib.hid hl
  clear hl1 hl2 hw ho hl h
  have g0 := HB.out.cell 0
  have g1 := HB.out.cell 1
  go_enter Try.func48, Try.ntmps48
  go_wp2_with fail
  obtain ⟨W, hW⟩ : ∃ W, W = w.alloc (.cells #[.slice A n c, .slice A' (n + 1) c'] 28) := ⟨_, rfl⟩
  rw [← hW] at HB HT hL g0 g1 ⊢
  clear hW
  have HL := Lib.hid hL
  clear hL
  refine (bits_any A n c ws W HT.out.widths (by omega)).mono ?_
  rintro e w1 ⟨rfl, rfl⟩
  rw [bits_yes Hw.out]
  have hbi := bel_int Hw.out 0
  rw [List.drop_zero] at hbi
  rw [hbi]
  clear hbi
  have hb16 := bel_le Hw.out 0
  obtain ⟨b0, hb0⟩ : ∃ b0, b0 = bel ws 0 := ⟨_, rfl⟩
  have hx0 := Hat.out.1
  rw [← hb0] at hb16 hx0 ⊢
  obtain ⟨ad, A2, c2, rfl, had, hc0, hcap0, hr0⟩ := HT.out.at_ (k := 0) (by omega)
  rw [add_zero_] at hc0
  obtain ⟨ad2, u, rfl, had2, hu, hcu⟩ := hr0.at_ hx0
  obtain ⟨y, hy, rfl⟩ := getElem_map_iv' hu
  have hy0 : y = walkN ws ss x 0 := by rw [walkN, ← hb0, (getD_some hy).2]
  have hl0 := Hln.out 0
  obtain ⟨L0, hL0⟩ : ∃ L0, L0 = (stg ss 0).length := ⟨_, rfl⟩
  rw [← hL0] at hx0 hc0 hl0
  obtain ⟨X0, hX0⟩ : ∃ X0, X0 = x / 2 ^ b0 := ⟨_, rfl⟩
  have hxd : (x : Int) / 2 ^ b0 = (X0 : Int) := by rw [hX0, Int.natCast_ediv, Int.natCast_pow]; rfl
  rw [← hX0] at hx0 hcu
  have hxi : (X0 : Int) < (L0 : Int) := by omega
  have Hy0 := Lib.hid hy0
  have Hb0 := Lib.hid hb0
  clear hX0 hL0 hy hu hr0 hcap0 hy0 hb0
  go_wp2_with fail
  go_quiet (fail)
  go_wp2
  clear hxi hcu hc0 hl0 hx0 hxd
  go_loopw [5, 6, 7] (fun s5 s6 s24 wr => ∃ k q : Nat, k ≤ n ∧ s24 = .int .i64 ((k : Int) + 1) ∧ s5 = .int .i64 ((bel ws k : Nat) : Int) ∧ s6 = .int .i64 (walkN ws ss x k) ∧ wr = w1.drewN q) (fun _ _ s24 _ => n + 1 - (intOf s24).toNat)
  case atStart => exact ⟨0, _, by omega, rfl, by rw [Hb0.out], by rw [Hy0.out], rfl⟩
  case round =>
    obtain ⟨k, q, hk, rfl, rfl, rfl, rfl⟩ := hrel
    by_cases hlt : k < n
    · have hkl : k < ws.length := by rw [Hl1.out]; exact hlt
      obtain ⟨hw1, hw2, hw3⟩ := Hat.out.2 k hkl
      obtain ⟨ad4, X, rfl, had4, hc4, hX, hX1, hX2⟩ := HT.out.width Hw.out hlt
      obtain ⟨ad3, A3, c3, e3, had3, hc3, hcap3, hr3⟩ := HT.out.at_ (k := k + 1) (by omega)
      injection e3 with e3
      subst e3
      rw [add_succ_] at hc3
      obtain ⟨ad5, u, rfl, had5, hu, hcu⟩ := hr3.at_ hw3
      obtain ⟨y2, hy2, rfl⟩ := getElem_map_iv' hu
      have hy3 : y2 = walkN ws ss x (k + 1) := by rw [walkN, (getD_some hy2).2]
      have hln := Hln.out (k + 1)
      obtain ⟨N, hN⟩ : ∃ N : Nat, walkN ws ss x k = (N : Int) := ⟨(walkN ws ss x k).toNat, by omega⟩
      rw [hN, Int.toNat_natCast] at hw3 hcu
      rw [hN]
      have hbs := bel_succ Hw.out hkl
      rw [← hX] at hbs
      obtain ⟨b1, hb1⟩ : ∃ b1, b1 = bel ws (k + 1) := ⟨_, rfl⟩
      rw [← hb1] at hbs hw3 hcu
      have hbk := bel_le Hw.out k
      obtain ⟨M, hM⟩ : ∃ M, M = nb ws k := ⟨_, rfl⟩
      have hM2 : M = 2 ^ X := by rw [hM, hX]
      rw [← hM] at hw3 hcu
      have hpw := pow_wrap16 X (by omega)
      rw [← hM2] at hpw
      have hM0 : 0 < M := by rw [hM]; exact nb_pos _ _
      obtain ⟨R, hR⟩ : ∃ R, R = x / 2 ^ b1 % M := ⟨_, rfl⟩
      have hRM : R < M := by rw [hR]; exact Nat.mod_lt _ hM0
      rw [← hR] at hw3 hcu
      obtain ⟨L3, hL3⟩ : ∃ L3, L3 = (stg ss (k + 1)).length := ⟨_, rfl⟩
      rw [← hL3] at hc3 hln hw3
      rw [hbs]
      have hsubv : (X : Int) + (b1 : Int) - (X : Int) = (b1 : Int) := by omega
      obtain ⟨P, hP⟩ : ∃ P, P = N * M := ⟨_, rfl⟩
      have hshl : IntKind.i64.wrap ((N : Int) * 2 ^ X) = (P : Int) := by
        have e : (N : Int) * 2 ^ X = (P : Int) := by rw [hP, hM2, Int.natCast_mul, Int.natCast_pow]; rfl
        rw [e]; exact IntWalk.i64_in _ (by omega)
      obtain ⟨Q, hQ⟩ : ∃ Q, Q = x / 2 ^ b1 := ⟨_, rfl⟩
      have hshr : (x : Int) / 2 ^ b1 = (Q : Int) := by rw [hQ, Int.natCast_ediv, Int.natCast_pow]; rfl
      rw [← hP] at hw3 hcu
      have hQx : Q ≤ x := by rw [hQ]; exact Nat.div_le_self _ _
      have hmd : (Q : Int) % (M : Int) = (R : Int) := by rw [hR, ← hQ, Int.natCast_emod]
      have hmd2 : (Q : Int).tmod (M : Int) = (R : Int) := by rw [Int.tmod_eq_emod_of_nonneg (by omega)]; exact hmd
      have hwR : IntKind.i64.wrap (R : Int) = (R : Int) := IntWalk.i64_in _ (by omega)
      have hMz : ¬ (M : Int) = 0 := by omega
      have hMzb : ((M : Int) == 0) = false := by simp; omega
      have hk0 : (0 : Int) ≤ (k : Int) := by omega
      have hkn : (k : Int) < (n : Int) := by omega
      have hkn1 : (k : Int) + 1 < (n : Int) + 1 := by omega
      have hk11 : (k : Int) + 1 - 1 = (k : Int) := by omega
      have hwkk : IntKind.i64.wrap (k : Int) = (k : Int) := IntWalk.i64_in _ (by omega)
      have hb16b : b1 ≤ 16 := by omega
      have hk1 : (k : Int) + 1 < (n : Int) + 1 := by omega
      have hPR : (P : Int) + (R : Int) < (L3 : Int) := by omega
      have hwk : IntKind.i64.wrap ((k : Int) + 1) = (k : Int) + 1 := IntWalk.i64_in _ (by omega)
      have hk10 : (0 : Int) ≤ (k : Int) + 1 := by omega
      have hM16 : M ≤ 65536 := by rw [hM2]; exact Nat.le_trans (Nat.pow_le_pow_right (n := 2) (by decide) (show X ≤ 16 by omega)) (by decide)
      have hwm : IntKind.i64.wrap ((M : Int) - 1) = (M : Int) - 1 := IntWalk.i64_in _ (by omega)
      have hwp : IntKind.i64.wrap ((P : Int) + (R : Int)) = ((P + R : Nat) : Int) := by rw [IntWalk.i64_in _ (by omega)]; omega
      have hPR2 : ((P + R : Nat) : Int) < (L3 : Int) := by omega
      have HE := Lib.hid (And.intro hX (And.intro hN (And.intro hb1 (And.intro hM (And.intro hR (And.intro hL3 (And.intro hbs (And.intro hy3 (And.intro hM2 hQ)))))))))
      clear hX hN hb1 hM hM2 hR hL3 hbs hy3 hQ hP hy2 hu hr3 hcap3 hw1 hw2 hbk hkl
      go_wp2_with fail
      go_quiet (fail)
      obtain ⟨_, _, hb1, _, _, _, _, hy3, _⟩ := HE.out
      have HE2 := Lib.hid (And.intro hb1 hy3)
      clear HE hb1 hy3
      go_wp2
      go_roundw
      case rel => exact ⟨k + 1, _, by omega, by go_num, by rw [HE2.out.1], by rw [HE2.out.2], rfl⟩
      case measure => simp [intOf]; omega
    · have hkn : k = n := by omega
      subst hkn
      have He := Lib.hid (show walkN ws ss x k = look ws ss x by rw [Hlook.out, Hl1.out])
      have hki : ¬ (k : Int) + 1 < (k : Int) + 1 := by omega
      go_wp2
      go_ret
      exact ⟨by rw [He.out]; rfl, below_drewN HL.out _⟩

def GetE (ws : List Int) (ss : List (List Int)) (x : Int) (e : Ending) : Prop := ∃ v : Int, e = .returned (.int .i64 v) ∧ ((0 ≤ x ∧ x ≤ 1114111 ∧ okT ws ss → v = look ws ss x.toNat) ∧ (¬ (0 ≤ x ∧ x ≤ 1114111 ∧ okT ws ss) → v = 0))
set_option maxRecDepth 100000 in
set_option maxHeartbeats 4000000 in
theorem rget_any (A A' : Option Addr) (n c n' c' : Nat) (ws : List Int) (ss : List (List Int)) (x : Int) (w : World) (h : Tab w w.heap.size A n c A' n' c' ws ss) (hn : n ≤ 1000000000) (hn' : n' ≤ 1000000000) (hs : ∀ i, (stg ss i).length ≤ 1000000000) :
    Calls Try.prog 20 #[.agg #[.slice A n c, .slice A' n' c'], .int .i64 x] w fun e w' => GetE ws ss x e ∧ Below w.heap.size w w' := by
  have hL : Below w.heap.size w (w.alloc (.cells #[.slice A n c, .slice A' n' c'] 28)) := (Below.refl _ w).alloc (Nat.le_refl _) _
  have HB := Lib.hid (Blk.new w 28 #[.slice A n c, .slice A' n' c'])
  have HT := Lib.hid ((h.below hL).more hL.size)
  have Hs := Lib.hid hs
  clear hs h
  have g0 := HB.out.cell 0
  have g1 := HB.out.cell 1
  go_enter Try.func20, Try.ntmps20
  obtain ⟨W, hW⟩ : ∃ W, W = w.alloc (.cells #[.slice A n c, .slice A' n' c'] 28) := ⟨_, rfl⟩
  rw [← hW] at HB HT hL g0 g1
  have HL := Lib.hid hL
  clear hL
  by_cases hx : 0 ≤ x ∧ x ≤ 1114111
  · obtain ⟨hx0, hx1⟩ := hx
    rw [hW] at g0 g1
    go_wp2_with fail
    rw [← hW] at g0 g1 ⊢
    clear hW
    refine (refvalidT_any A A' n c n' c' ws ss W HT.out hn hn' Hs.out).mono ?_
    rintro e w2 ⟨⟨r, rfl, hr⟩, hb2⟩
    have Hb2 := Lib.hid (HL.out.trans (hb2.mono HL.out.size))
    have HT2 := Lib.hid ((HT.out.below hb2).more hb2.size)
    have HB2 := Lib.hid (HB.out.stay hb2)
    clear hb2 g0 g1
    have g0 := HB2.out.cell 0
    have g1 := HB2.out.cell 1
    have Hr := Lib.hid hr
    clear hr
    cases r with
    | false =>
      have hno : ¬ okT ws ss := fun ho => by have := Hr.out.2 ho; cases this
      have Hno := Lib.hid hno
      clear hno
      go_wp2
      go_ret
      exact ⟨⟨0, rfl, fun h => absurd h.2.2 Hno.out, fun _ => rfl⟩, Hb2.out⟩
    | true =>
      have hyes : okT ws ss := Hr.out.1 rfl
      obtain ⟨X, rfl⟩ : ∃ X : Nat, x = (X : Int) := ⟨x.toNat, by omega⟩
      have Hyes := Lib.hid hyes
      have Hx := Lib.hid (And.intro hx0 hx1)
      clear hyes hx0
      go_wp2_with fail
      refine (rlook_any A A' n c n' c' ws ss X w2 HT2.out Hyes.out Hs.out (by have := Hx.out.2; omega)).mono ?_
      rintro e w3 ⟨rfl, hb3⟩
      have Hb3 := Lib.hid (Hb2.out.trans (hb3.mono Hb2.out.size))
      clear hb3
      go_wp2
      go_ret
      exact ⟨⟨_, rfl, fun _ => by simp, fun h => absurd ⟨Hx.out.1, Hx.out.2, Hyes.out⟩ h⟩, Hb3.out⟩
  · have Hx := Lib.hid hx
    rw [hW] at g0 g1
    have hL2 := HL.out
    rw [hW] at hL2
    have HL2 := Lib.hid hL2
    clear hW hL2 g0 g1 HB HT HL
    by_cases hx0 : x < 0
    · clear hx
      go_wp2
      go_ret
      exact ⟨⟨0, rfl, fun h => absurd ⟨h.1, h.2.1⟩ Hx.out, fun _ => rfl⟩, HL2.out⟩
    · have hx1 : 1114111 < x := by omega
      clear hx
      go_wp2
      go_ret
      exact ⟨⟨0, rfl, fun h => absurd ⟨h.1, h.2.1⟩ Hx.out, fun _ => rfl⟩, HL2.out⟩

set_option maxRecDepth 100000 in
set_option maxHeartbeats 4000000 in
theorem rsize_any (A A' : Option Addr) (n c n' c' : Nat) (ws : List Int) (ss : List (List Int)) (w : World) (h : Tab w w.heap.size A n c A' n' c' ws ss) (hn' : n' ≤ 1000000000) (hs : ∀ i, (stg ss i).length ≤ 1000000000) :
    Calls Try.prog 22 #[.agg #[.slice A n c, .slice A' n' c']] w fun e w' => e = .returned (.int .i64 ((szT ss : Nat) : Int)) ∧ Below w.heap.size w w' := by
  obtain ⟨hl1, hl2⟩ := h.len
  have hL : Below w.heap.size w (w.alloc (.cells #[.slice A n c, .slice A' n' c'] 28)) := (Below.refl _ w).alloc (Nat.le_refl _) _
  have HB := Lib.hid (Blk.new w 28 #[.slice A n c, .slice A' n' c'])
  have HT := Lib.hid ((h.below hL).more hL.size)
  have Hs := Lib.hid hs
  have Hl2 := Lib.hid hl2
  clear hs h hl1 hl2
  have g0 := HB.out.cell 0
  have g1 := HB.out.cell 1
  go_enter Try.func22, Try.ntmps22
  go_wp2_with fail
  obtain ⟨W, hW⟩ : ∃ W, W = w.alloc (.cells #[.slice A n c, .slice A' n' c'] 28) := ⟨_, rfl⟩
  rw [← hW] at HB HT hL g0 g1 ⊢
  clear hW
  have HL := Lib.hid hL
  clear hL
  go_loop [3, 4] (fun s3 s9 => ∃ k : Nat, k ≤ n' ∧ s9 = .int .i64 (k : Int) ∧ s3 = .int .i64 ((szT (ss.take k) : Nat) : Int)) (fun _ s9 => n' - (intOf s9).toNat)
  case atStart => exact ⟨0, by omega, rfl, by simp [szT]⟩
  case round =>
    obtain ⟨k, hk, rfl, rfl⟩ := hrel
    by_cases hlt : k < n'
    · obtain ⟨ad3, A3, c3, rfl, had3, hc3, hcap3, hr3⟩ := HT.out.at_ (k := k) (by omega)
      have hb := szT_le Hs.out k (by have := Hl2.out; omega)
      have hb1 := Hs.out k
      have Hsn := Lib.hid (szT_snoc (ss := ss) (k := k) (by have := Hl2.out; omega))
      have hbk : k * 1000000000 ≤ 1000000000 * 1000000000 := Nat.mul_le_mul_right _ (by omega)
      obtain ⟨L3, hL3⟩ : ∃ L3, L3 = (stg ss k).length := ⟨_, rfl⟩
      obtain ⟨Z, hZ⟩ : ∃ Z, Z = szT (ss.take k) := ⟨_, rfl⟩
      rw [← hL3] at hc3 hb1 Hsn
      rw [← hZ] at hb Hsn ⊢
      have hki : (k : Int) < (n' : Int) := by omega
      have hZb : Z ≤ 1000000000000000000 := by omega
      clear hL3 hZ hr3 hcap3 hb hbk
      go_wp2
      go_round
      case rel => exact ⟨k + 1, by omega, by go_num, by rw [Hsn.out]; go_num⟩
      case measure => simp [intOf]; omega
    · have hkn : k = n' := by omega
      subst hkn
      have He := Lib.hid (show ss.take k = ss from List.take_of_length_le (by have := Hl2.out; omega))
      have hki : ¬ (k : Int) < (k : Int) := by omega
      go_wp2
      go_ret
      exact ⟨by rw [He.out]; rfl, HL.out⟩
end Go.Proofs.Ytnlmikefihaldaa

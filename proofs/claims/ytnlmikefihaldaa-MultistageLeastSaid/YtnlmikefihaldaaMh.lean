/- multistage: value, Get, Size. -/
import Derived.Test.YtnlmikefihaldaaMg
namespace Go.Proofs.Ytnlmikefihaldaa
open Go.RowKit

/-- the numbers on the way to a code point's value -/
def walkN (ws : List Int) (ss : List (List Int)) (c : Nat) : Nat → Int
  | 0 => (stg ss 0).getD (c / 2 ^ bel ws 0) 0
  | k + 1 => (stg ss (k + 1)).getD ((walkN ws ss c k).toNat * nb ws k + c / 2 ^ bel ws (k + 1) % nb ws k) 0
theorem walk_ex {ws : List Int} (hw : okW ws) (ss : List (List Int)) (c : Nat) : ∀ (f k : Nat), k + f + 1 = ws.length → ex ws ss f k (walkN ws ss c k).toNat (c % 2 ^ bel ws k) = walkN ws ss c ws.length := by
  have hd : ∀ k, k < ws.length → c % 2 ^ bel ws k / 2 ^ bel ws (k + 1) = c / 2 ^ bel ws (k + 1) % nb ws k := fun k hk => by
    rw [nb_bel hw hk, Nat.mul_comm, Nat.mod_mul_right_div_self]
  intro f
  induction f with
  | zero =>
    intro k hk
    have h0 : bel ws (k + 1) = 0 := bel_end (by omega)
    have := hd k (by omega)
    rw [h0, Nat.pow_zero, Nat.div_one, Nat.div_one] at this
    rw [ex, this, ← hk, Nat.add_zero, walkN, h0, Nat.pow_zero, Nat.div_one]
  | succ f ih =>
    intro k hk
    rw [ex, hd k (by omega)]
    have := ih (k + 1) (by omega)
    rw [walkN] at this
    rw [← this]
    congr 1
    rw [nb_bel hw (k := k) (by omega), Nat.mod_mul_left_mod]
theorem walk_look {ws : List Int} (hw : okW ws) (ss : List (List Int)) (c : Nat) : look ws ss c = walkN ws ss c ws.length := by
  have := walk_ex hw ss c (ws.length - 1) 0 (by have := hw.1; omega)
  rw [walkN] at this
  exact this
/-- where the way leads -/
theorem walk_at {ws : List Int} {ss : List (List Int)} (h : okT ws ss) {c : Nat} (hc : c < 1114112) : c / 2 ^ bel ws 0 < (stg ss 0).length ∧ ∀ k, k < ws.length → 0 ≤ walkN ws ss c k ∧ walkN ws ss c k < (cnt ws ss k : Int) ∧ (walkN ws ss c k).toNat * nb ws k + c / 2 ^ bel ws (k + 1) % nb ws k < (stg ss (k + 1)).length := by
  have h0 : c / 2 ^ bel ws 0 < (stg ss 0).length := by
    rw [Nat.div_lt_iff_lt_mul (Nat.two_pow_pos _), st0_dvd h.1 h.2.2.1]; exact hc
  refine ⟨h0, fun k => ?_⟩
  have fin : ∀ k, k < ws.length → walkN ws ss c k ∈ stg ss k → 0 ≤ walkN ws ss c k ∧ walkN ws ss c k < (cnt ws ss k : Int) ∧ (walkN ws ss c k).toNat * nb ws k + c / 2 ^ bel ws (k + 1) % nb ws k < (stg ss (k + 1)).length := fun k hk hm => by
    obtain ⟨h1, h2, _⟩ := ok_cnt h hk
    have h3 := scan_range h1 _ hm
    refine ⟨h3.1, h3.2, ?_⟩
    rw [h2]
    exact at_lt (by omega) (Nat.mod_lt _ (nb_pos _ _))
  induction k with
  | zero => intro hk; exact fin 0 hk (getD_mem h0)
  | succ k ih => intro hk; exact fin (k + 1) hk (getD_mem (ih (by omega)).2.2)
theorem ofInt64n (a : Nat) (ha : a < 18446744073709551616) : (BitVec.ofInt 64 (a : Int)).toNat = a := by
  rw [BitVec.toNat_ofInt]; omega
theorem and_pow (a X : Nat) (ha : a < 1000000000) (hX : X ≤ 16) : bits .and .i64 (a : Int) (((2 ^ X : Nat) : Int) - 1) = ((a % 2 ^ X : Nat) : Int) := by
  have hp : 0 < 2 ^ X := Nat.two_pow_pos _
  have hp2 : 2 ^ X ≤ 65536 := Nat.le_trans (Nat.pow_le_pow_right (n := 2) (by decide) hX) (by decide)
  have e : (((2 ^ X : Nat) : Int) - 1) = ((2 ^ X - 1 : Nat) : Int) := by omega
  rw [e]
  show IntKind.i64.wrap ((BitVec.ofInt 64 (a : Int) &&& BitVec.ofInt 64 ((2 ^ X - 1 : Nat) : Int)).toNat : Int) = _
  rw [BitVec.toNat_and, ofInt64n _ (by omega), ofInt64n _ (by omega), Nat.and_two_pow_sub_one_eq_mod, IntKind.wrap_i64]
  have := Nat.mod_lt a hp
  omega

set_option maxRecDepth 100000 in
set_option maxHeartbeats 4000000 in
theorem value_any (A A' : Option Addr) (n c n' c' : Nat) (ws : List Int) (ss : List (List Int)) (x : Nat) (w : World) (h : Tab w w.heap.size A n c A' n' c' ws ss) (ho : okT ws ss) (hl : ∀ i, (stg ss i).length ≤ 1000000000) (hx : x < 1114112) :
    Calls Try.prog 47 #[.agg #[.slice A n c, .slice A' n' c'], .int .i64 (x : Int)] w fun e w' => e = .returned (.int .i64 (look ws ss x)) ∧ Below w.heap.size w w' := by
  obtain ⟨hl1, hl2⟩ := h.len
  have hL : Below w.heap.size w (w.alloc (.cells #[.slice A n c, .slice A' n' c'] 28)) := (Below.refl _ w).alloc (Nat.le_refl _) _
  have HB := Lib.hid (Blk.new w 28 #[.slice A n c, .slice A' n' c'])
  have HT := Lib.hid ((h.below hL).more hL.size)
  have hw := ho.1
  have hn3 : 1 ≤ n ∧ n ≤ 3 := by have := hw.1; have := hw.2.1; omega
  have hnn : n' = n + 1 := by have := ho.2.1; omega
  obtain ⟨hn1, hn3⟩ := hn3
  subst hnn
  have Hl1 := Lib.hid hl1
  have Hl2 := Lib.hid hl2
  have Hw := Lib.hid hw
  have Hat := Lib.hid (walk_at ho hx)
  have Hlook := Lib.hid (walk_look hw ss x)
  have Hln := Lib.hid hl
  clear hl1 hl2 hw ho hl h
  have g0 := HB.out.cell 0
  have g1 := HB.out.cell 1
  go_enter Try.func47, Try.ntmps47
  go_wp2_with fail
  obtain ⟨W, hW⟩ : ∃ W, W = w.alloc (.cells #[.slice A n c, .slice A' (n + 1) c'] 28) := ⟨_, rfl⟩
  rw [← hW] at HB HT hL g0 g1 ⊢
  clear hW
  have HL := Lib.hid hL
  clear hL
  refine (sumT_any A n c 0 ws W HT.out.widths HT.out.cap hn3 (by omega) (fun x hx => Hw.out.2.2.1 x hx)).mono ?_
  rintro e w1 ⟨rfl, rfl⟩
  rw [bel_int Hw.out 0]
  have hb16 := bel_le Hw.out 0
  obtain ⟨b0, hb0⟩ : ∃ b0, b0 = bel ws 0 := ⟨_, rfl⟩
  have hx0 := Hat.out.1
  rw [← hb0] at hb16 hx0 ⊢
  obtain ⟨ad, A2, c2, rfl, had, hc0, hcap0, hr0⟩ := HT.out.at_ (k := 0) (by omega)
  rw [add_zero_] at hc0
  obtain ⟨ad2, u, rfl, had2, hu, hcu⟩ := hr0.at_ hx0
  obtain ⟨y, hy, rfl⟩ := getElem_map_iv' hu
  have hy0 : y = walkN ws ss x 0 := by rw [walkN, ← hb0, (getD_some hy).2]
  have hl0 := Hln.out 0
  obtain ⟨L0, hL0⟩ : ∃ L0, L0 = (stg ss 0).length := ⟨_, rfl⟩
  rw [← hL0] at hx0 hc0 hl0
  obtain ⟨X0, hX0⟩ : ∃ X0, X0 = x / 2 ^ b0 := ⟨_, rfl⟩
  have hxd : (x : Int) / 2 ^ b0 = (X0 : Int) := by rw [hX0, Int.natCast_ediv, Int.natCast_pow]; rfl
  rw [← hX0] at hx0 hcu
  have hxi : (X0 : Int) < (L0 : Int) := by omega
  have Hy0 := Lib.hid hy0
  have Hb0 := Lib.hid hb0
  clear hX0 hL0 hy hu hr0 hcap0 hy0 hb0
  go_wp2_with fail
  go_quiet (fail)
  go_wp2
  clear hxi hcu hc0 hl0 hx0 hxd
  go_loopw [5, 6, 24] (fun s5 s6 s24 wr => ∃ k q : Nat, k ≤ n ∧ s24 = .int .i64 (k : Int) ∧ s5 = .int .i64 ((bel ws k : Nat) : Int) ∧ s6 = .int .i64 (walkN ws ss x k) ∧ wr = w1.drewN q) (fun _ _ s24 _ => n - (intOf s24).toNat)
  case atStart => exact ⟨0, _, by omega, rfl, by rw [Hb0.out], by rw [Hy0.out], rfl⟩
  case round =>
    obtain ⟨k, q, hk, rfl, rfl, rfl, rfl⟩ := hrel
    by_cases hlt : k < n
    · have hkl : k < ws.length := by rw [Hl1.out]; exact hlt
      obtain ⟨hw1, hw2, hw3⟩ := Hat.out.2 k hkl
      obtain ⟨ad4, X, rfl, had4, hc4, hX, hX1, hX2⟩ := HT.out.width Hw.out hlt
      obtain ⟨ad3, A3, c3, e3, had3, hc3, hcap3, hr3⟩ := HT.out.at_ (k := k + 1) (by omega)
      injection e3 with e3
      subst e3
      rw [add_succ_] at hc3
      obtain ⟨ad5, u, rfl, had5, hu, hcu⟩ := hr3.at_ hw3
      obtain ⟨y2, hy2, rfl⟩ := getElem_map_iv' hu
      have hy3 : y2 = walkN ws ss x (k + 1) := by rw [walkN, (getD_some hy2).2]
      have hln := Hln.out (k + 1)
      obtain ⟨N, hN⟩ : ∃ N : Nat, walkN ws ss x k = (N : Int) := ⟨(walkN ws ss x k).toNat, by omega⟩
      rw [hN, Int.toNat_natCast] at hw3 hcu
      rw [hN]
      have hbs := bel_succ Hw.out hkl
      rw [← hX] at hbs
      obtain ⟨b1, hb1⟩ : ∃ b1, b1 = bel ws (k + 1) := ⟨_, rfl⟩
      rw [← hb1] at hbs hw3 hcu
      have hbk := bel_le Hw.out k
      obtain ⟨M, hM⟩ : ∃ M, M = nb ws k := ⟨_, rfl⟩
      have hM2 : M = 2 ^ X := by rw [hM, hX]
      rw [← hM] at hw3 hcu
      have hpw := pow_wrap16 X (by omega)
      rw [← hM2] at hpw
      have hM0 : 0 < M := by rw [hM]; exact nb_pos _ _
      obtain ⟨R, hR⟩ : ∃ R, R = x / 2 ^ b1 % M := ⟨_, rfl⟩
      have hRM : R < M := by rw [hR]; exact Nat.mod_lt _ hM0
      rw [← hR] at hw3 hcu
      obtain ⟨L3, hL3⟩ : ∃ L3, L3 = (stg ss (k + 1)).length := ⟨_, rfl⟩
      rw [← hL3] at hc3 hln hw3
      rw [hbs]
      have hsubv : (X : Int) + (b1 : Int) - (X : Int) = (b1 : Int) := by omega
      obtain ⟨P, hP⟩ : ∃ P, P = N * M := ⟨_, rfl⟩
      have hshl : IntKind.i64.wrap ((N : Int) * 2 ^ X) = (P : Int) := by
        have e : (N : Int) * 2 ^ X = (P : Int) := by rw [hP, hM2, Int.natCast_mul, Int.natCast_pow]; rfl
        rw [e]; exact IntWalk.i64_in _ (by omega)
      obtain ⟨Q, hQ⟩ : ∃ Q, Q = x / 2 ^ b1 := ⟨_, rfl⟩
      have hshr : (x : Int) / 2 ^ b1 = (Q : Int) := by rw [hQ, Int.natCast_ediv, Int.natCast_pow]; rfl
      rw [← hP] at hw3 hcu
      have hQx : Q ≤ x := by rw [hQ]; exact Nat.div_le_self _ _
      have hand : bits .and .i64 (Q : Int) ((M : Int) - 1) = (R : Int) := by
        have := and_pow Q X (by omega) (by omega)
        rw [← hM2] at this
        rw [this, hR, hQ]
      have hb16b : b1 ≤ 16 := by omega
      have hk1 : (k : Int) + 1 < (n : Int) + 1 := by omega
      have hPR : (P : Int) + (R : Int) < (L3 : Int) := by omega
      have hwk : IntKind.i64.wrap ((k : Int) + 1) = (k : Int) + 1 := IntWalk.i64_in _ (by omega)
      have hk10 : (0 : Int) ≤ (k : Int) + 1 := by omega
      have hM16 : M ≤ 65536 := by rw [hM2]; exact Nat.le_trans (Nat.pow_le_pow_right (n := 2) (by decide) (show X ≤ 16 by omega)) (by decide)
      have hwm : IntKind.i64.wrap ((M : Int) - 1) = (M : Int) - 1 := IntWalk.i64_in _ (by omega)
      have hwp : IntKind.i64.wrap ((P : Int) + (R : Int)) = ((P + R : Nat) : Int) := by rw [IntWalk.i64_in _ (by omega)]; omega
      have hPR2 : ((P + R : Nat) : Int) < (L3 : Int) := by omega
      have HE := Lib.hid (And.intro hX (And.intro hN (And.intro hb1 (And.intro hM (And.intro hR (And.intro hL3 (And.intro hbs (And.intro hy3 (And.intro hM2 hQ)))))))))
      clear hX hN hb1 hM hM2 hR hL3 hbs hy3 hQ hP hy2 hu hr3 hcap3 hw1 hw2 hbk hkl
      go_wp2_with fail
      go_quiet (fail)
      obtain ⟨_, _, hb1, _, _, _, _, hy3, _⟩ := HE.out
      have HE2 := Lib.hid (And.intro hb1 hy3)
      clear HE hb1 hy3
      go_wp2
      go_roundw
      case rel => exact ⟨k + 1, _, by omega, by go_num, by rw [HE2.out.1], by rw [HE2.out.2], rfl⟩
      case measure => simp [intOf]; omega
    · have hkn : k = n := by omega
      subst hkn
      have He := Lib.hid (show walkN ws ss x k = look ws ss x by rw [Hlook.out, Hl1.out])
      have hki : ¬ (k : Int) < (k : Int) := by omega
      go_wp2
      go_ret
      exact ⟨by rw [He.out]; rfl, below_drewN HL.out _⟩

set_option maxRecDepth 100000 in
set_option maxHeartbeats 4000000 in
theorem get_any (A A' : Option Addr) (n c n' c' : Nat) (ws : List Int) (ss : List (List Int)) (x : Int) (w : World) (h : Tab w w.heap.size A n c A' n' c' ws ss) (hn : n ≤ 1000000000) (hn' : n' ≤ 1000000000) (hs : ∀ i, (stg ss i).length ≤ 1000000000) (hw : ∀ i, ∀ x ∈ stg ss i, W64 x) :
    Calls Try.prog 19 #[.agg #[.slice A n c, .slice A' n' c'], .int .i64 x] w fun e w' => (∃ v : Int, e = .returned (.int .i64 v) ∧ ((0 ≤ x ∧ x ≤ 1114111 ∧ okT ws ss → v = look ws ss x.toNat) ∧ (¬ (0 ≤ x ∧ x ≤ 1114111 ∧ okT ws ss) → v = 0))) ∧ Below w.heap.size w w' := by
  have hL : Below w.heap.size w (w.alloc (.cells #[.slice A n c, .slice A' n' c'] 28)) := (Below.refl _ w).alloc (Nat.le_refl _) _
  have HB := Lib.hid (Blk.new w 28 #[.slice A n c, .slice A' n' c'])
  have HT := Lib.hid ((h.below hL).more hL.size)
  have Hs := Lib.hid hs
  have Hw := Lib.hid hw
  clear hs hw h
  have g0 := HB.out.cell 0
  have g1 := HB.out.cell 1
  go_enter Try.func19, Try.ntmps19
  go_wp2_with fail
  obtain ⟨W, hW⟩ : ∃ W, W = w.alloc (.cells #[.slice A n c, .slice A' n' c'] 28) := ⟨_, rfl⟩
  rw [← hW] at HB HT hL g0 g1 ⊢
  clear hW
  have HL := Lib.hid hL
  clear hL
  by_cases hx : 0 ≤ x ∧ x ≤ 1114111
  · refine (cpvalid_is x true W (by rw [decide_eq_true hx])).mono ?_
    rintro e w1 ⟨rfl, rfl⟩
    go_wp2_with fail
    refine (validT_any A A' n c n' c' ws ss w1 HT.out hn hn' Hs.out Hw.out).mono ?_
    rintro e w2 ⟨⟨r, rfl, hr⟩, hb2⟩
    have Hb2 := Lib.hid (HL.out.trans (hb2.mono HL.out.size))
    have HT2 := Lib.hid ((HT.out.below hb2).more hb2.size)
    have HB2 := Lib.hid (HB.out.stay hb2)
    clear hb2 g0 g1
    have g0 := HB2.out.cell 0
    have g1 := HB2.out.cell 1
    have Hr := Lib.hid hr
    clear hr
    cases r with
    | false =>
      have hno : ¬ okT ws ss := fun ho => by have := Hr.out.2 ho; cases this
      have Hno := Lib.hid hno
      clear hno
      go_wp2
      go_ret
      exact ⟨⟨0, rfl, fun h => absurd h.2.2 Hno.out, fun _ => rfl⟩, Hb2.out⟩
    | true =>
      have hyes : okT ws ss := Hr.out.1 rfl
      obtain ⟨X, rfl⟩ : ∃ X : Nat, x = (X : Int) := ⟨x.toNat, by omega⟩
      have Hyes := Lib.hid hyes
      have Hx := Lib.hid hx
      clear hyes hx
      go_wp2_with fail
      refine (value_any A A' n c n' c' ws ss X w2 HT2.out Hyes.out Hs.out (by have := Hx.out.2; omega)).mono ?_
      rintro e w3 ⟨rfl, hb3⟩
      have Hb3 := Lib.hid (Hb2.out.trans (hb3.mono Hb2.out.size))
      clear hb3
      go_wp2
      go_ret
      exact ⟨⟨_, rfl, fun _ => by simp, fun h => absurd ⟨Hx.out.1, Hx.out.2, Hyes.out⟩ h⟩, Hb3.out⟩
  · refine (cpvalid_is x false W (by rw [decide_eq_false hx])).mono ?_
    rintro e w1 ⟨rfl, rfl⟩
    have Hx := Lib.hid hx
    clear hx
    go_wp2
    go_ret
    exact ⟨⟨0, rfl, fun h => absurd ⟨h.1, h.2.1⟩ Hx.out, fun _ => rfl⟩, HL.out⟩

theorem szT_snoc {ss : List (List Int)} {k : Nat} (h : k < ss.length) : szT (ss.take (k + 1)) = szT (ss.take k) + (stg ss k).length := by
  unfold szT
  rw [List.take_succ_eq_append_getElem h, List.map_append, List.sum_append]
  have e : stg ss k = ss[k] := by simp [stg, List.getD, List.getElem?_eq_getElem h]
  rw [e]
  simp only [List.map_cons, List.map_nil, List.sum_cons, List.sum_nil, Nat.add_zero]
theorem szT_le {ss : List (List Int)} (h : ∀ i, (stg ss i).length ≤ 1000000000) : ∀ k, k ≤ ss.length → szT (ss.take k) ≤ k * 1000000000
  | 0, _ => by simp [szT]
  | k + 1, hk => by
    rw [szT_snoc (by omega), Nat.succ_mul]
    have := szT_le h k (by omega)
    have := h k
    omega
set_option maxRecDepth 100000 in
set_option maxHeartbeats 4000000 in
theorem size_any (A A' : Option Addr) (n c n' c' : Nat) (ws : List Int) (ss : List (List Int)) (w : World) (h : Tab w w.heap.size A n c A' n' c' ws ss) (hn' : n' ≤ 1000000000) (hs : ∀ i, (stg ss i).length ≤ 1000000000) :
    Calls Try.prog 21 #[.agg #[.slice A n c, .slice A' n' c']] w fun e w' => e = .returned (.int .i64 ((szT ss : Nat) : Int)) ∧ Below w.heap.size w w' := by
  obtain ⟨hl1, hl2⟩ := h.len
  have hL : Below w.heap.size w (w.alloc (.cells #[.slice A n c, .slice A' n' c'] 28)) := (Below.refl _ w).alloc (Nat.le_refl _) _
  have HB := Lib.hid (Blk.new w 28 #[.slice A n c, .slice A' n' c'])
  have HT := Lib.hid ((h.below hL).more hL.size)
  have Hs := Lib.hid hs
  have Hl2 := Lib.hid hl2
  clear hs h hl1 hl2
  have g0 := HB.out.cell 0
  have g1 := HB.out.cell 1
  go_enter Try.func21, Try.ntmps21
  go_wp2_with fail
  obtain ⟨W, hW⟩ : ∃ W, W = w.alloc (.cells #[.slice A n c, .slice A' n' c'] 28) := ⟨_, rfl⟩
  rw [← hW] at HB HT hL g0 g1 ⊢
  clear hW
  have HL := Lib.hid hL
  clear hL
  go_wp2_with fail
  go_loop [3, 9] (fun s3 s9 => ∃ k : Nat, k ≤ n' ∧ s9 = .int .i64 (k : Int) ∧ s3 = .int .i64 ((szT (ss.take k) : Nat) : Int)) (fun _ s9 => n' - (intOf s9).toNat)
  case atStart => exact ⟨0, by omega, rfl, by simp [szT]⟩
  case round =>
    obtain ⟨k, hk, rfl, rfl⟩ := hrel
    by_cases hlt : k < n'
    · obtain ⟨ad3, A3, c3, rfl, had3, hc3, hcap3, hr3⟩ := HT.out.at_ (k := k) (by omega)
      have hb := szT_le Hs.out k (by have := Hl2.out; omega)
      have hb1 := Hs.out k
      have Hsn := Lib.hid (szT_snoc (ss := ss) (k := k) (by have := Hl2.out; omega))
      have hbk : k * 1000000000 ≤ 1000000000 * 1000000000 := Nat.mul_le_mul_right _ (by omega)
      obtain ⟨L3, hL3⟩ : ∃ L3, L3 = (stg ss k).length := ⟨_, rfl⟩
      obtain ⟨Z, hZ⟩ : ∃ Z, Z = szT (ss.take k) := ⟨_, rfl⟩
      rw [← hL3] at hc3 hb1 Hsn
      rw [← hZ] at hb Hsn ⊢
      have hki : (k : Int) < (n' : Int) := by omega
      have hZb : Z ≤ 1000000000000000000 := by omega
      clear hL3 hZ hr3 hcap3 hb hbk
      go_wp2
      go_round
      case rel => exact ⟨k + 1, by omega, by go_num, by rw [Hsn.out]; go_num⟩
      case measure => simp [intOf]; omega
    · have hkn : k = n' := by omega
      subst hkn
      have He := Lib.hid (show ss.take k = ss from List.take_of_length_le (by have := Hl2.out; omega))
      have hki : ¬ (k : Int) < (k : Int) := by omega
      go_wp2
      go_ret
      exact ⟨by rw [He.out]; rfl, HL.out⟩
end Go.Proofs.Ytnlmikefihaldaa

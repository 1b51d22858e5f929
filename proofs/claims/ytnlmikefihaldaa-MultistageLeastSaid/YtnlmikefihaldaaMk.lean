/- unicodetextlaw13.MultistageValid. -/
import Derived.Test.YtnlmikefihaldaaMj
import Derived.Deep.RegionHeld3
namespace Go.Proofs.Ytnlmikefihaldaa
open Go.RowKit

def SmallE (n n' : Nat) (ss : List (List Int)) (e : Ending) : Prop := ∃ b : Bool, e = .returned (.bool b) ∧ (b = true → n ≤ 6 ∧ n' ≤ 6 ∧ (∀ i, (stg ss i).length ≤ 12000) ∧ szT ss ≤ 12000)
theorem stg_all {ss : List (List Int)} {k N : Nat} (h : ∀ i, i < k → (stg ss i).length ≤ N) (hk : ss.length ≤ k) : ∀ i, (stg ss i).length ≤ N := fun i => by
  rcases Nat.lt_or_ge i k with hi | hi
  · exact h i hi
  · rw [stg_far (by omega)]; simp
set_option maxRecDepth 100000 in
set_option maxHeartbeats 4000000 in
theorem small_any (A A' : Option Addr) (n c n' c' : Nat) (ws : List Int) (ss : List (List Int)) (w : World) (h : Tab w w.heap.size A n c A' n' c' ws ss) :
    Calls Try.prog 16 #[.agg #[.slice A n c, .slice A' n' c']] w fun e w' => SmallE n n' ss e ∧ Below w.heap.size w w' := by
  obtain ⟨hl1, hl2⟩ := h.len
  have hL : Below w.heap.size w (w.alloc (.cells #[.slice A n c, .slice A' n' c'] 28)) := (Below.refl _ w).alloc (Nat.le_refl _) _
  have HB := Lib.hid (Blk.new w 28 #[.slice A n c, .slice A' n' c'])
  have HT := Lib.hid ((h.below hL).more hL.size)
  have Hl2 := Lib.hid hl2
  have HL := Lib.hid hL
  clear h hl1 hl2 hL
  have g0 := HB.out.cell 0
  have g1 := HB.out.cell 1
  go_enter Try.func16, Try.ntmps16
  by_cases q1 : 6 < n
  · have q1d : (6 : Int) < (n : Int) := by omega
    go_wp2
    go_ret
    exact ⟨⟨false, rfl, fun h => by cases h⟩, HL.out⟩
  by_cases q2 : 6 < n'
  · have q1d : ¬ (6 : Int) < (n : Int) := by omega
    have q2d : (6 : Int) < (n' : Int) := by omega
    go_wp2
    go_ret
    exact ⟨⟨false, rfl, fun h => by cases h⟩, HL.out⟩
  have q1d : ¬ (6 : Int) < (n : Int) := by omega
  have q2d : ¬ (6 : Int) < (n' : Int) := by omega
  go_wp2
  obtain ⟨W, hW⟩ : ∃ W, W = w.alloc (.cells #[.slice A n c, .slice A' n' c'] 28) := ⟨_, rfl⟩
  rw [← hW] at HB HT HL g0 g1 ⊢
  clear hW
  go_loop [3] (fun s3 => ∃ k : Nat, k ≤ n' ∧ s3 = .int .i64 (k : Int) ∧ Hid (∀ i, i < k → (stg ss i).length ≤ 12000)) (fun s3 => n' - (intOf s3).toNat)
  case atStart => exact ⟨0, by omega, rfl, Lib.hid (fun i hi => absurd hi (by omega))⟩
  case round =>
    obtain ⟨k, hk, rfl, Hk⟩ := hrel
    by_cases hlt : k < n'
    · obtain ⟨ad3, A3, c3, rfl, had3, hc3, hcap3, hr3⟩ := HT.out.at_ (k := k) (by omega)
      obtain ⟨L3, hL3⟩ : ∃ L3, L3 = (stg ss k).length := ⟨_, rfl⟩
      rw [← hL3] at hc3
      have hki : (k : Int) < (n' : Int) := by omega
      have HL3 := Lib.hid hL3
      clear hL3 hr3 hcap3
      by_cases q3 : 12000 < L3
      · have q3d : (12000 : Int) < (L3 : Int) := by omega
        go_wp2
        go_ret
        exact ⟨⟨false, rfl, fun h => by cases h⟩, HL.out⟩
      · have q3d : ¬ (12000 : Int) < (L3 : Int) := by omega
        go_wp2
        go_round
        case rel => exact ⟨k + 1, by omega, by go_num, Lib.hid (fun i hi => by rcases Nat.lt_or_eq_of_le (Nat.le_of_lt_succ hi) with h | h; exact Hk.out i h; subst h; rw [← HL3.out]; omega)⟩
        case measure => simp [intOf]; omega
    · have hkn : k = n' := by omega
      subst hkn
      have hki : ¬ (k : Int) < (k : Int) := by omega
      have Hall := Lib.hid (stg_all Hk.out (by rw [Hl2.out]; exact Nat.le_refl _))
      go_wp2_with fail
      refine (rsize_any A A' n c k c' ws ss W HT.out (by omega) (fun i => Nat.le_trans (Hall.out i) (by omega))).mono ?_
      rintro e w1 ⟨rfl, hb1⟩
      have Hb1 := Lib.hid (HL.out.trans (hb1.mono HL.out.size))
      obtain ⟨Z, hZ⟩ : ∃ Z, Z = szT ss := ⟨_, rfl⟩
      rw [← hZ]
      have HZ := Lib.hid hZ
      clear hZ hb1
      by_cases q4 : Z ≤ 12000
      · have q4d : (Z : Int) ≤ 12000 := by omega
        go_wp2
        go_ret
        exact ⟨⟨true, rfl, fun _ => ⟨by omega, by omega, Hall.out, by rw [← HZ.out]; exact q4⟩⟩, Hb1.out⟩
      · have q4d : ¬ (Z : Int) ≤ 12000 := by omega
        go_wp2
        go_ret
        exact ⟨⟨_, rfl, fun h => absurd (of_decide_eq_true h) (by omega)⟩, Hb1.out⟩

theorem says_is {p : Prop} {e : Ending} (h : Says e p) {b : Bool} (hb : b = true ↔ p) : e = .returned (.bool b) := by
  obtain ⟨r, rfl, hr⟩ := h
  have : r = b := by cases r <;> cases b <;> simp_all
  rw [this]
theorem exists_bool (p : Prop) : ∃ b : Bool, b = true ↔ p := by
  by_cases h : p
  · exact ⟨true, by simp [h]⟩
  · exact ⟨false, by simp [h]⟩
/-- the value that both Gets return -/
theorem exists_get (ws : List Int) (ss : List (List Int)) (x : Int) : ∃ v : Int, ∀ e, GetE ws ss x e → e = .returned (.int .i64 v) := by
  by_cases h : 0 ≤ x ∧ x ≤ 1114111 ∧ okT ws ss
  · exact ⟨look ws ss x.toNat, fun e ⟨v, he, h1, _⟩ => by rw [he, h1 h]⟩
  · exact ⟨0, fun e ⟨v, he, _, h2⟩ => by rw [he, h2 h]⟩

set_option maxRecDepth 100000 in
set_option maxHeartbeats 4000000 in
theorem wk_valid (A A' : Option Addr) (n c n' c' : Nat) (ws : List Int) (ss : List (List Int)) (x : Int) (w : World) (h : Tab w w.heap.size A n c A' n' c' ws ss) (hw : ∀ i, ∀ x ∈ stg ss i, W64 x) :
    Calls Try.prog 4 #[.agg #[.slice A n c, .slice A' n' c'], .int .i64 x] w fun e w' => e = .returned (.bool true) ∧ Below w.heap.size w w' := by
  have hL : Below w.heap.size w (w.alloc (.cells #[.slice A n c, .slice A' n' c'] 28)) := (Below.refl _ w).alloc (Nat.le_refl _) _
  have HB := Lib.hid (Blk.new w 28 #[.slice A n c, .slice A' n' c'])
  have HT := Lib.hid ((h.below hL).more hL.size)
  have HL := Lib.hid hL
  have Hw := Lib.hid hw
  clear h hL hw
  have g0 := HB.out.cell 0
  have g1 := HB.out.cell 1
  go_enter Try.func4, Try.ntmps4
  go_wp2_with fail
  obtain ⟨W, hW⟩ : ∃ W, W = w.alloc (.cells #[.slice A n c, .slice A' n' c'] 28) := ⟨_, rfl⟩
  rw [← hW] at HB HT HL g0 g1 ⊢
  clear hW
  refine (small_any A A' n c n' c' ws ss W HT.out).mono ?_
  rintro e w1 ⟨⟨b, rfl, hb⟩, hb1⟩
  have HB1 := Lib.hid (HB.out.stay hb1)
  have HT1 := Lib.hid ((HT.out.below hb1).more hb1.size)
  have HL1 := Lib.hid (HL.out.trans (hb1.mono HL.out.size))
  clear hb1 g0 g1 HB HT HL
  have g0 := HB1.out.cell 0
  have g1 := HB1.out.cell 1
  cases b with
  | false =>
    clear hb
    go_wp2_with fail
    refine (awake_any w1).mono ?_
    rintro e w2 ⟨rfl, hb2⟩
    have HL2 := Lib.hid (HL1.out.trans (hb2.mono HL1.out.size))
    clear hb2
    go_wp2
    go_ret
    exact ⟨rfl, HL2.out⟩
  | true =>
    obtain ⟨hn, hn', hl, _⟩ := hb rfl
    have Hl := Lib.hid (fun i => Nat.le_trans (hl i) (show 12000 ≤ 1000000000 by omega))
    clear hb hl
    obtain ⟨b, hb⟩ := exists_bool (okT ws ss)
    obtain ⟨v, hv⟩ := exists_get ws ss x
    obtain ⟨Z, hZ⟩ : ∃ Z, Z = szT ss := ⟨_, rfl⟩
    have HT2 := Lib.hid (show ∀ u, Below w1.heap.size w1 u → Tab u u.heap.size A n c A' n' c' ws ss from fun u hu => (HT1.out.below hu).more hu.size)
    have C1 := Lib.hid (show ∀ u, Below w1.heap.size w1 u → Calls Try.prog 17 #[.agg #[.slice A n c, .slice A' n' c']] u fun e u' => e = .returned (.bool b) ∧ Below w1.heap.size w1 u' from fun u hu =>
      (validT_any A A' n c n' c' ws ss u (HT2.out u hu) (by omega) (by omega) Hl.out Hw.out).mono fun e u' ⟨h1, h2⟩ => ⟨says_is h1 hb, hu.trans (h2.mono hu.size)⟩)
    have C2 := Lib.hid (show ∀ u, Below w1.heap.size w1 u → Calls Try.prog 18 #[.agg #[.slice A n c, .slice A' n' c']] u fun e u' => e = .returned (.bool b) ∧ Below w1.heap.size w1 u' from fun u hu =>
      (refvalidT_any A A' n c n' c' ws ss u (HT2.out u hu) (by omega) (by omega) Hl.out).mono fun e u' ⟨h1, h2⟩ => ⟨says_is h1 hb, hu.trans (h2.mono hu.size)⟩)
    have C3 := Lib.hid (show ∀ u, Below w1.heap.size w1 u → Calls Try.prog 19 #[.agg #[.slice A n c, .slice A' n' c'], .int .i64 x] u fun e u' => e = .returned (.int .i64 v) ∧ Below w1.heap.size w1 u' from fun u hu =>
      (get_any A A' n c n' c' ws ss x u (HT2.out u hu) (by omega) (by omega) Hl.out Hw.out).mono fun e u' ⟨h1, h2⟩ => ⟨hv e h1, hu.trans (h2.mono hu.size)⟩)
    have C4 := Lib.hid (show ∀ u, Below w1.heap.size w1 u → Calls Try.prog 20 #[.agg #[.slice A n c, .slice A' n' c'], .int .i64 x] u fun e u' => e = .returned (.int .i64 v) ∧ Below w1.heap.size w1 u' from fun u hu =>
      (rget_any A A' n c n' c' ws ss x u (HT2.out u hu) (by omega) (by omega) Hl.out).mono fun e u' ⟨h1, h2⟩ => ⟨hv e h1, hu.trans (h2.mono hu.size)⟩)
    have C5 := Lib.hid (show ∀ u, Below w1.heap.size w1 u → Calls Try.prog 21 #[.agg #[.slice A n c, .slice A' n' c']] u fun e u' => e = .returned (.int .i64 (Z : Int)) ∧ Below w1.heap.size w1 u' from fun u hu =>
      (size_any A A' n c n' c' ws ss u (HT2.out u hu) (by omega) Hl.out).mono fun e u' ⟨h1, h2⟩ => ⟨by rw [h1, hZ], hu.trans (h2.mono hu.size)⟩)
    have C6 := Lib.hid (show ∀ u, Below w1.heap.size w1 u → Calls Try.prog 22 #[.agg #[.slice A n c, .slice A' n' c']] u fun e u' => e = .returned (.int .i64 (Z : Int)) ∧ Below w1.heap.size w1 u' from fun u hu =>
      (rsize_any A A' n c n' c' ws ss u (HT2.out u hu) (by omega) Hl.out).mono fun e u' ⟨h1, h2⟩ => ⟨by rw [h1, hZ], hu.trans (h2.mono hu.size)⟩)
    have C7 := Lib.hid (show ∀ u, Below w1.heap.size w1 u → Calls Try.prog 11 #[] u fun e u' => e = .returned (.bool true) ∧ Below w1.heap.size w1 u' from fun u hu =>
      (awake_any u).mono fun e u' ⟨h1, h2⟩ => ⟨h1, hu.trans (h2.mono hu.size)⟩)
    have K := Lib.hid (show ∀ u, Below w1.heap.size w1 u → u.cell? ⟨w.heap.size, 0, none⟩ = some (.slice A n c) ∧ u.cell? ⟨w.heap.size, 1, none⟩ = some (.slice A' n' c') from fun u hu => ⟨(hu.cell HB1.out.lt).trans g0, (hu.cell HB1.out.lt).trans g1⟩)
    have hbS : Below w1.heap.size w1 w1.drew := (Below.refl _ _).drew
    clear hb hv hZ HT2
    go_wp2_with fail
    go_region_held3 (fun u => Below w1.heap.size w1 u ∧ u.cell? ⟨w.heap.size, 0, none⟩ = some (.slice A n c) ∧ u.cell? ⟨w.heap.size, 1, none⟩ = some (.slice A' n' c')) (first | exact ⟨hbS, K.out _ hbS⟩) (first | (go_at_call 17; (with_reducible refine (C1.out _ hbS).mono ?_); rintro e u ⟨rfl, hbu⟩; clear hbS; have hbS := hbu; clear hbu) | (go_at_call 18; (with_reducible refine (C2.out _ hbS).mono ?_); rintro e u ⟨rfl, hbu⟩; clear hbS; have hbS := hbu; clear hbu) | (go_at_call 19; (with_reducible refine (C3.out _ hbS).mono ?_); rintro e u ⟨rfl, hbu⟩; clear hbS; have hbS := hbu; clear hbu) | (go_at_call 20; (with_reducible refine (C4.out _ hbS).mono ?_); rintro e u ⟨rfl, hbu⟩; clear hbS; have hbS := hbu; clear hbu) | (go_at_call 21; (with_reducible refine (C5.out _ hbS).mono ?_); rintro e u ⟨rfl, hbu⟩; clear hbS; have hbS := hbu; clear hbu) | (go_at_call 22; (with_reducible refine (C6.out _ hbS).mono ?_); rintro e u ⟨rfl, hbu⟩; clear hbS; have hbS := hbu; clear hbu) | (go_at_call 11; (with_reducible refine (C7.out _ hbS).mono ?_); rintro e u ⟨rfl, hbu⟩; clear hbS; have hbS := hbu; clear hbu))
    all_goals (have HE := Lib.hid (HL1.out.trans (hbS.mono HL1.out.size)); clear hbS)
    all_goals (go_wp2; go_ret; exact ⟨rfl, HE.out⟩)
end Go.Proofs.Ytnlmikefihaldaa

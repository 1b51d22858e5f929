/- unicodetextlaw13.awake: the example of the chapter. -/
import Derived.Test.YtnlmikefihaldaaMh
import Derived.Test.YtnlmikefihaldaaMs
namespace Go.Proofs.Ytnlmikefihaldaa
open Go.RowKit

theorem ex_zero {ws : List Int} {ss : List (List Int)} (h : ∀ k t, (stg ss k).getD t 0 = 0) : ∀ (f k i o : Nat), ex ws ss f k i o = 0 := by
  intro f
  induction f with
  | zero => intro k i o; rw [ex, h]
  | succ f ih => intro k i o; rw [ex, ih]
theorem rep_getD (n t : Nat) : (List.replicate n (0 : Int)).getD t 0 = 0 := by
  rcases Nat.lt_or_ge t n with h | h
  · simp [List.getD, h]
  · simp [List.getD, List.getElem?_eq_none (show (List.replicate n (0 : Int)).length ≤ t by simp; omega)]
def litT : List (List Int) := [List.replicate 272 0, List.replicate 256 0, List.replicate 16 0]
theorem lit_getD : ∀ k t, (stg litT k).getD t 0 = 0
  | 0, t => rep_getD 272 t
  | 1, t => rep_getD 256 t
  | 2, t => rep_getD 16 t
  | k + 3, t => by rw [stg_far (by simp [litT])]; rfl
theorem okW84 : okW [8, 4] := by decide
theorem lit_l0 : (stg litT 0).length = 272 := List.length_replicate ..
theorem lit_l1 : (stg litT 1).length = 256 := List.length_replicate ..
theorem lit_l2 : (stg litT 2).length = 16 := List.length_replicate ..
theorem lit_formed : formedT [8, 4] litT := by
  refine ⟨okW84, rfl, by rw [lit_l0]; rfl, fun i hi => ?_⟩
  match i, hi with
  | 0, _ =>
    unfold formedAt
    rw [show 0 + 1 = 1 from rfl, lit_l1]
    refine ⟨rfl, fun x hx => ?_⟩
    have : x = 0 := List.eq_of_mem_replicate (n := 272) hx
    subst this
    exact ⟨by decide, by decide⟩
  | 1, _ =>
    unfold formedAt
    rw [show 1 + 1 = 2 from rfl, lit_l2]
    refine ⟨rfl, fun x hx => ?_⟩
    have : x = 0 := List.eq_of_mem_replicate (n := 256) hx
    subst this
    exact ⟨by decide, by decide⟩
  | i + 2, hi => exact absurd hi (by simp)
theorem can84 {ss : List (List Int)} (h : CanT [] [8, 4] ss) : ss.length = 3 ∧ (stg ss 0).length = 272 ∧ (stg ss 1).length = 256 ∧ (stg ss 2).length = 16 := by
  have hle : ∀ k, k < 2 → cnt [8, 4] ss k ≤ 1 := fun k hk => by
    have h1 := least_cnt h.ok lit_formed (fun c hc => by rw [h.val c hc]; unfold look; rw [ex_zero lit_getD]; rfl) (k := k) hk
    have h2 : cnt [8, 4] litT k = 1 := by
      match k, hk with
      | 0, _ => unfold cnt; rw [show 0 + 1 = 1 from rfl, lit_l1]; rfl
      | 1, _ => unfold cnt; rw [show 1 + 1 = 2 from rfl, lit_l2]; rfl
    omega
  have h0 : (stg ss 0).length = 272 := h.ok.2.2.1
  obtain ⟨a1, a2, _⟩ := ok_cnt h.ok (k := 0) (by simp)
  obtain ⟨b1, b2, _⟩ := ok_cnt h.ok (k := 1) (by simp)
  have r1 := scan_range a1 _ (getD_mem (l := stg ss 0) (t := 0) (by omega))
  have c1 := hle 0 (by omega)
  have e1 : cnt [8, 4] ss 0 = 1 := by omega
  have n0 : nb [8, 4] 0 = 256 := rfl
  have n1 : nb [8, 4] 1 = 16 := rfl
  rw [e1, n0] at a2
  have a2 : (stg ss 1).length = 1 * 256 := a2
  have r2 := scan_range b1 _ (getD_mem (l := stg ss 1) (t := 0) (by omega))
  have c2 := hle 1 (by omega)
  have e2 : cnt [8, 4] ss 1 = 1 := by omega
  rw [e2, n1] at b2
  exact ⟨h.ok.2.1, h0, a2, b2⟩
theorem okS_nil : okS [] := ⟨fun i x h => by simp at h, fun i x y h => by simp at h⟩
theorem okS_awake : okS [(65, 90, 7)] := ⟨fun i x h => by
  match i, h with
  | 0, h => simp at h; subst h; unfold okS1; simp
  | i + 1, h => simp at h, fun i x y h h' => by simp at h'⟩
theorem okW9 : okW [9] := by decide
theorem W64s_nil : W64s [] := fun c => by simp [valF, W64]
theorem W64s_awake : W64s [(65, 90, 7)] := fun c => by
  rw [valF_one]
  split <;> simp [W64]
theorem chk_ok {l : List (Int × Int × Int)} {ws : List Int} (h : okS l) (hw : okW ws) {r : Int} (hr : ChkR l ws r) : r = 0 := by
  rcases hr with ⟨a, _⟩ | ⟨_, a, _⟩ | ⟨_, _, a⟩
  · exact absurd h a
  · exact absurd hw a
  · exact a
/-- Build of valid spans and widths -/
theorem buildE_ok {l : List (Int × Int × Int)} {ws : List Int} (h : okS l) (hw : okW ws) {m : Nat} {e : Ending} {w : World} (hb : BuildE l ws m e w) : ∃ A1 c1 A2 c2 ss, e = .returned (.tuple #[.agg #[.slice A1 m c1, .slice A2 (m + 1) c2], .int .i64 0]) ∧ Tab w w.heap.size A1 m c1 A2 (m + 1) c2 ws ss ∧ CanT l ws ss := by
  rcases hb with ⟨r, h1, h2, _⟩ | ⟨_, v, ss, rfl, ⟨A1, c1, A2, c2, rfl, ht⟩, hc⟩
  · exact absurd (chk_ok h hw h2) h1
  · exact ⟨A1, c1, A2, c2, ss, rfl, ht, hc⟩

theorem spans_awake (w : World) : Reads (w.alloc (.cells #[.int .i64 65, .int .i64 90, .int .i64 7] 48)) (w.heap.size + 1) 3 (some ⟨w.heap.size, 0, none⟩) 1 ([((65 : Int), (90 : Int), (7 : Int))].flatMap spv) :=
  ⟨rfl, fun _ => ⟨_, rfl, by simp, fun t u ht => by
    have hu := Blk.new w 48 #[.int .i64 65, .int .i64 90, .int .i64 7]
    have e : (⟨w.heap.size, 0, none⟩ : Addr).add t = ⟨w.heap.size, t, none⟩ := by unfold Addr.add; split <;> simp_all
    rw [e, hu.cell]
    match t, ht with
    | 0, ht => exact ht
    | 1, ht => exact ht
    | 2, ht => exact ht
    | t + 3, ht => simp [spv] at ht⟩⟩
theorem ints_new (w : World) (cs : List Int) : Reads (w.alloc (.cells (cs.map iv).toArray 3)) (w.heap.size + 1) 1 (some ⟨w.heap.size, 0, none⟩) cs.length (cs.map iv) :=
  ⟨by simp, fun _ => ⟨_, rfl, by simp, fun t u ht => by
    have hu := Blk.new w 3 (cs.map iv).toArray
    have e : (⟨w.heap.size, 0, none⟩ : Addr).add t = ⟨w.heap.size, t, none⟩ := by unfold Addr.add; split <;> simp_all
    rw [e, hu.cell]
    simpa using ht⟩⟩
set_option maxRecDepth 100000 in
set_option maxHeartbeats 4000000 in
theorem awake_any (w : World) : Calls Try.prog 11 #[] w fun e w' => e = .returned (.bool true) ∧ Below w.heap.size w w' := by
  go_enter Try.func11, Try.ntmps11
  go_wp2_with fail
  obtain ⟨W, hW⟩ : ∃ W, W = w.alloc (.cells #[.int .i64 8, .int .i64 4] 3) := ⟨_, rfl⟩
  have hb0 : Below w.heap.size w W := by rw [hW]; exact (Below.refl _ _).alloc (Nat.le_refl _) _
  have hr0 : Reads W W.heap.size 1 (some ⟨w.heap.size, 0, none⟩) 2 (([8, 4] : List Int).map iv) := by
    have := ints_new w [8, 4]
    rw [hW]; simpa [iv] using this
  have HB0 := Lib.hid hb0
  rw [← hW]
  clear hW hb0
  refine (build_any none 0 0 [] (some ⟨w.heap.size, 0, none⟩) 2 2 [8, 4] W ⟨rfl, fun h => absurd h (by omega)⟩ hr0 (by omega) (by omega) (by omega) W64s_nil).mono ?_
  rintro e w1 ⟨hE, hb1⟩
  obtain ⟨A1, c1, A2, c2, ss, rfl, hT, hC⟩ := buildE_ok okS_nil okW84 hE
  obtain ⟨q0, q1, q2, q3⟩ := can84 hC
  have HB1 := Lib.hid (HB0.out.trans (hb1.mono HB0.out.size))
  clear hE hr0 hb1 HB0
  obtain ⟨ad, B1, d1, rfl, had, hc1, _, _⟩ := hT.at_ (k := 0) (by omega)
  obtain ⟨ad', B2, d2, e2, _, hc2, _, _⟩ := hT.at_ (k := 1) (by omega)
  obtain ⟨ad'', B3, d3, e3, _, hc3, _, _⟩ := hT.at_ (k := 2) (by omega)
  injection e2 with e2
  injection e3 with e3
  subst e2
  subst e3
  rw [q1, add_zero_] at hc1
  rw [q2, show (1 : Nat) = 0 + 1 from rfl, add_succ_] at hc2
  rw [q3, show (2 : Nat) = 1 + 1 from rfl, add_succ_] at hc3
  clear hT hC q0 q1 q2 q3
  have HL1 := Lib.hid had
  go_wp2_with fail
  obtain ⟨W1, hW1⟩ : ∃ W1, W1 = w1.alloc (.cells #[.slice A1 2 c1, .slice (some ad) 3 c2] 28) := ⟨_, rfl⟩
  have hs1 : W1.heap.size = w1.heap.size + 1 := by rw [hW1]; simp
  obtain ⟨W2, hW2⟩ : ∃ W2, W2 = (W1.alloc (.cells #[.int .i64 65, .int .i64 90, .int .i64 7] 48)).alloc (.cells #[.int .i64 9] 3) := ⟨_, rfl⟩
  have hb2 : Below w1.heap.size w1 W2 := by rw [hW2, hW1]; exact (((Below.refl _ _).alloc (Nat.le_refl _) _).alloc (by simp) _).alloc (by simp; omega) _
  have hrs : Reads W2 W2.heap.size 3 (some ⟨w1.heap.size + 1, 0, none⟩) 1 ([((65 : Int), (90 : Int), (7 : Int))].flatMap spv) := by
    have := (spans_awake W1).alloc (by simp) (.cells #[.int .i64 9] 3)
    rw [← hW2, hs1] at this
    exact this.more (by rw [hW2]; simp; omega)
  have hrw : Reads W2 W2.heap.size 1 (some ⟨w1.heap.size + 1 + 1, 0, none⟩) 1 (([9] : List Int).map iv) := by
    have := ints_new (W1.alloc (.cells #[.int .i64 65, .int .i64 90, .int .i64 7] 48)) [9]
    rw [hW2]; simpa [iv, hs1] using this
  have HB2 := Lib.hid (HB1.out.trans (hb2.mono HB1.out.size))
  rw [← hW1, ← hW2]
  clear hW1 hW2 hs1 hb2 hc1 hc2 hc3 HL1
  refine (build_any _ 1 1 [(65, 90, 7)] _ 1 1 [9] W2 hrs hrw (by omega) (by omega) (by omega) W64s_awake).mono ?_
  rintro e w3 ⟨hE, hb3⟩
  obtain ⟨A3, c3, A4, c4, ss3, rfl, hT, hC⟩ := buildE_ok okS_awake okW9 hE
  have HB3 := Lib.hid (HB2.out.trans (hb3.mono HB2.out.size))
  have HC := Lib.hid hC
  have hL : Below w3.heap.size w3 (w3.alloc (.cells #[.slice A3 1 c3, .slice A4 2 c4] 28)) := (Below.refl _ w3).alloc (Nat.le_refl _) _
  have HBk := Lib.hid (Blk.new w3 28 #[.slice A3 1 c3, .slice A4 2 c4])
  have HT := Lib.hid ((hT.below hL).more hL.size)
  have HB4 := Lib.hid (HB3.out.trans (hL.mono HB3.out.size))
  clear hE hrs hrw hb3 hC hT hL HB2
  go_wp2_with fail
  obtain ⟨W4, hW4⟩ : ∃ W4, W4 = w3.alloc (.cells #[.slice A3 1 c3, .slice A4 2 c4] 28) := ⟨_, rfl⟩
  rw [← hW4] at HBk HT HB4 ⊢
  clear hW4
  refine (get_any A3 A4 1 c3 2 c4 [9] ss3 66 W4 HT.out (by omega) (by omega) (fun i => Nat.le_trans (HC.out.len i) (by omega)) HC.out.w64).mono ?_
  rintro e w5 ⟨⟨v, rfl, hv, _⟩, hb5⟩
  have hv7 : v = 7 := by rw [hv ⟨by omega, by omega, HC.out.ok⟩, HC.out.val _ (by decide)]; rfl
  subst hv7
  have HBk5 := Lib.hid (HBk.out.stay hb5)
  have HT5 := Lib.hid ((HT.out.below hb5).more hb5.size)
  have HB5 := Lib.hid (HB4.out.trans (hb5.mono HB4.out.size))
  clear hv hb5
  have g0 := HBk5.out.cell 0
  have g1 := HBk5.out.cell 1
  go_wp2_with fail
  clear g0 g1
  refine (get_any A3 A4 1 c3 2 c4 [9] ss3 91 w5 HT5.out (by omega) (by omega) (fun i => Nat.le_trans (HC.out.len i) (by omega)) HC.out.w64).mono ?_
  rintro e w6 ⟨⟨v, rfl, hv, _⟩, hb6⟩
  have hv0 : v = 0 := by rw [hv ⟨by omega, by omega, HC.out.ok⟩, HC.out.val _ (by decide)]; rfl
  subst hv0
  have HB6 := Lib.hid (HB5.out.trans (hb6.mono HB5.out.size))
  clear hv hb6
  go_wp2_with fail
  refine (check_any none 0 0 [] none 0 0 [] w6 ⟨rfl, fun h => absurd h (by omega)⟩ ⟨rfl, fun h => absurd h (by omega)⟩ (by omega) (by omega) (by omega)).mono ?_
  rintro e w7 ⟨⟨r, rfl, hr⟩, hb7⟩
  have hr1 : r = 1 := by
    rcases hr with ⟨h, _⟩ | ⟨_, _, h⟩ | ⟨_, h, _⟩
    · exact absurd okS_nil h
    · exact h
    · exact absurd h (by decide)
  subst hr1
  have HB7 := Lib.hid (HB6.out.trans (hb7.mono HB6.out.size))
  clear hr hb7
  go_wp2
  go_ret
  exact ⟨rfl, HB7.out⟩
end Go.Proofs.Ytnlmikefihaldaa

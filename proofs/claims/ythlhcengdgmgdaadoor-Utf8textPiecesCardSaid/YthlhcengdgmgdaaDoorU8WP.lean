/- The walk of Utf8textPieces. -/
import Derived.Test.YthlhcengdgmgdaaDoorU8A
import Derived.Test.YthlhcengdgmgdaaDoorStep
namespace Go.Proofs.YthlhcengdgmgdaaDoor
open Go.RowKit

/-- a guarded operation whose guard is met -/
theorem wpList_unguard {P : Program} {ops : Array Oper} {Q : Exit → Act → World → Prop} {a : Act} {w : World} {rest : List Oper} {o : Oper} (hw : Region.wanted o (yielded ops a.tmps) = true)
    (h : wpList P ops Q ({ o with guard := none } :: rest) a w) : wpList P ops Q (o :: rest) a w := by
  unfold wpList at h ⊢
  rw [if_pos hw]
  rw [if_pos (by simp [Region.wanted])] at h
  exact h
theorem dec8R_other (s : List UInt8) (p : Int) (hp : 2 ≤ p ∧ p ≤ 4) : ∃ l, dec8 p s.length 0 s = .ok l ∧ dec8R s p = (l, 0, 0) ∧ l.length ≤ 5 * s.length := by
  obtain ⟨l, hl, _⟩ := dec8_other p (by omega) s.length 0 s (Nat.le_refl _)
  exact ⟨l, hl, by rw [dec8R, if_pos (by simp [known8]; omega), hl]; rfl, dec8_len p _ _ _ _ (Nat.le_refl _) hl⟩
theorem pieces8 (s : List UInt8) (k : Nat) (p : Int) (hp : 2 ≤ p ∧ p ≤ 4) (hc : Cut8 s k) : ∃ x y, dec8R (s.take k) p = (x, 0, 0) ∧ dec8R (s.drop k) p = (y, 0, 0) ∧ dec8R s p = (x ++ y, 0, 0) ∧ x.length ≤ 5 * s.length ∧ y.length ≤ 5 * s.length := by
  obtain ⟨x, h1, h2, h3⟩ := dec8R_other (s.take k) p hp
  obtain ⟨y, h4, h5, h6⟩ := dec8R_other (s.drop k) p hp
  have hle := hc.le
  rw [List.length_take] at h1 h3
  rw [List.length_drop] at h4 h6
  refine ⟨x, y, h2, h5, ?_, by omega, by omega⟩
  rw [dec8R, if_pos (by simp [known8]; omega), dec8_cut p (by omega) k s s.length _ _ 0 x y hc (Nat.le_refl _) (by omega) (by omega) h1 h4]; rfl
theorem ext_take (s : List UInt8) (k : Nat) : (⟨s.toArray⟩ : ByteArray).extract 0 k = ⟨(s.take k).toArray⟩ := by rw [ByteArray.extract_mk]; simp
theorem app8 (x y : List Int) : (x ++ y).map iv = x.map iv ++ y.map iv := List.map_append
set_option maxRecDepth 100000 in
set_option maxHeartbeats 4000000 in
theorem wk8_pieces (s : List UInt8) (q r : Nat) (w : World) (hq : q < 256) (hr0 : r < 256) (hd : Dig w) :
    Calls Tryd.prog 9 #[.string ⟨s.toArray⟩, .int .u8 (q : Int), .int .u8 (r : Int)] w fun e w' => e = .returned (.bool true) ∧ Below w.heap.size w w' := by
  have Hd := Lib.hid hd
  clear hd
  by_cases hbig : 300 < s.length
  · have hbig' : (300 : Int) < (s.length : Int) := by omega
    go_enter Tryd.func9, Tryd.ntmps9
    go_wp2_with fail
    refine (alive8_any _ (Hd.out)).mono ?_
    rintro x wz ⟨rfl, bz⟩
    go_wp2
    go_ret
    exact ⟨rfl, bz⟩
  have hbig' : ¬ (300 : Int) < (s.length : Int) := by omega
  obtain ⟨i0, hi, hz0, hz1, hz2⟩ := info_parts Tryd.info3
  have hpp : 2 ≤ (2 + (r : Int) % 3) ∧ (2 + (r : Int) % 3) ≤ 4 := by omega
  have Hp := Lib.hid (fun k hc => pieces8 s k (2 + (r : Int) % 3) hpp hc)
  clear hpp
  go_enter Tryd.func9, Tryd.ntmps9
  go_wp2
  go_loop [8, 9] (fun a i => ∃ k j : Nat, k ≤ s.length ∧ j ≤ q ∧ a = .int .i64 (k : Int) ∧ i = .int .i64 (j : Int) ∧ Hid (Cut8 s k)) (fun _ i => q - (intOf i).toNat)
  case atStart => exact ⟨0, 0, by omega, by omega, rfl, rfl, Cut8.zero⟩
  case round =>
    obtain ⟨k, j, hk, hj, rfl, rfl, HC⟩ := hrel
    by_cases hgo : j < q ∧ k < s.length
    · obtain ⟨hj2, hk2⟩ := hgo
      have hne : s.drop k ≠ [] := by intro e; have := congrArg List.length e; rw [List.length_drop, List.length_nil] at this; omega
      have hbd := step8_bd _ hne
      have hn := Cut8.step HC.out hk2
      obtain ⟨⟨c, n, ok⟩, hst⟩ : ∃ x, step8 (s.drop k) = x := ⟨_, rfl⟩
      rw [hst] at hbd hn
      simp only at hbd hn
      obtain ⟨hn1, hn4, hn3⟩ := hbd
      have hTl : (s.drop k).length = s.length - k := List.length_drop
      rw [hTl] at hn3
      have hx1 := ext_drop s k
      have HN := Lib.hid hn
      have HST := Lib.hid hst
      have hTl2 : (s.drop k).length ≤ 1000000 := by omega
      clear hn hst hne hTl
      generalize s.drop k = T at hx1 HST hTl2
      go_wp2_with fail
      refine (step8H T c n ok _ hTl2 HST.out).mono ?_
      rintro e w1 ⟨rfl, rfl⟩
      go_wp2
      go_round
      case rel => exact ⟨k + n, j + 1, by omega, by omega, by go_num, by go_num, HN.out⟩
      case measure => simp [intOf]; omega
    · obtain ⟨x, y, h1, h2, h3, hx5, hy5⟩ := Hp.out k HC.out
      have H1 := Lib.hid h1
      have H2 := Lib.hid h2
      have H3 := Lib.hid h3
      clear h1 h2 h3
      have hx1 := ext_drop s k
      have hx2 := ext_take s k
      have hl1 : (s.drop k).length ≤ 300 := by rw [List.length_drop]; omega
      have hl2 : (s.take k).length ≤ 300 := by rw [List.length_take]; omega
      generalize s.drop k = T at hx1 H2 hl1
      generalize s.take k = U at hx2 H1 hl2
      have hgd : (decide ((j : Int) < (q : Int)) && decide ((k : Int) < (s.length : Int))) = false := by simp; omega
      by_cases hj2 : j < q
      all_goals
        have hk9 : ¬ (j < q ∧ k < s.length) := hgo
        clear hgo hgd
        go_wp2_with fail
        refine (decode8H U x (2 + (r : Int) % 3) 0 0 w (by omega) Hd.out H1.out).mono ?_
        rintro x w1 ⟨A1, c1, rfl, hr1, hb1⟩
        have b1 := hb1
        have bn2 := below_new w1 (.cells #[.int .i64 0, .int .i64 0] 24)
        have f3 := Blk.new w1 24 #[.int .i64 0, .int .i64 0]
        have l6 := f3.cell 0
        have l7 := f3.cell 1
        go_wp2_with fail
        clear l6 l7
        obtain ⟨W4, hW5⟩ : ∃ W, W = w1.alloc (.cells #[.int .i64 0, .int .i64 0] 24) := ⟨_, rfl⟩
        rw [← hW5] at f3 bn2 ⊢
        clear hW5
        have f8 := hr1.stay bn2
        have b9 := b1.trans (bn2.mono b1.size)
        clear b1
        clear hr1
        refine (decode8H T y (2 + (r : Int) % 3) 0 0 _ (by omega) (Hd.out.below b9) H2.out).mono ?_
        rintro x w2 ⟨A2, c2, rfl, hr2, hb2⟩
        have f10 := f8.stay hb2
        have f11 := f3.stay hb2
        have b12 := b9.trans (hb2.mono b9.size)
        clear b9
        clear f8 f3
        have bn13 := below_new w2 (.cells #[.int .i64 0, .int .i64 0] 24)
        have f14 := Blk.new w2 24 #[.int .i64 0, .int .i64 0]
        have l17 := (f11.stay bn13).cell 0
        have l18 := (f11.stay bn13).cell 1
        have l19 := f14.cell 0
        have l20 := f14.cell 1
        go_wp2_with fail
        clear l17 l18 l19 l20
        obtain ⟨W15, hW16⟩ : ∃ W, W = w2.alloc (.cells #[.int .i64 0, .int .i64 0] 24) := ⟨_, rfl⟩
        rw [← hW16] at f14 bn13 ⊢
        clear hW16
        have f21 := f10.stay bn13
        have f22 := f11.stay bn13
        have f23 := hr2.stay bn13
        have b24 := b12.trans (bn13.mono b12.size)
        clear b12
        clear f10 f11 hr2
        refine (decode8H s (x ++ y) (2 + (r : Int) % 3) 0 0 _ (by omega) (Hd.out.below b24) H3.out).mono ?_
        rintro x w3 ⟨A3, c3, rfl, hr3, hb3⟩
        have f25 := f21.stay hb3
        have f26 := f22.stay hb3
        have f27 := f23.stay hb3
        have f28 := f14.stay hb3
        have b29 := b24.trans (hb3.mono b24.size)
        clear b24
        clear f21 f22 f23 f14
        clear hx1 hx2
        have bn30 := below_new w3 (.cells #[.int .i64 0, .int .i64 0] 24)
        have f31 := Blk.new w3 24 #[.int .i64 0, .int .i64 0]
        have l32 := (f26.stay bn30).cell 0
        have l33 := (f26.stay bn30).cell 1
        have l34 := (f28.stay bn30).cell 0
        have l35 := (f28.stay bn30).cell 1
        have q0 := f31.cell 0
        have q1 := f31.cell 1
        have ho0 : ((w3.alloc (.cells #[.int .i64 0, .int .i64 0] 24)).alloc (.cells #[] 3)).ownsRow (w3.heap.size + 1) 3 1 (.slice (some ⟨w3.heap.size + 1, 0, none⟩) 0 0) 0 [] := by
          have := World.ownsRow_lit (base := (w3.heap.size + 1)) (e := 3) (size := 1) (w3.alloc (.cells #[.int .i64 0, .int .i64 0] 24)) #[] 0 (by simp) (by unfold maxLen; omega) rfl
          simpa using this
        have hrx := ((f25.alloc (Nat.le_refl _) (.cells #[.int .i64 0, .int .i64 0] 24)).alloc (by simp) (.cells #[] 3)).more (B' := (w3.heap.size + 1)) (by omega)
        have hry := ((f27.alloc (Nat.le_refl _) (.cells #[.int .i64 0, .int .i64 0] 24)).alloc (by simp) (.cells #[] 3)).more (B' := (w3.heap.size + 1)) (by omega)
        have hrz := (hr3.alloc (Nat.le_refl _) (.cells #[.int .i64 0, .int .i64 0] 24)).alloc (by simp) (.cells #[] 3)
        have b9 := (b29.alloc b29.size (.cells #[.int .i64 0, .int .i64 0] 24)).alloc (by have := b29.size; simp; omega) (.cells #[] 3)
        have hbz := b29.size
        clear f25 f26 f27 f28 hr3 b29 bn30 f31
        go_wp2_with (first | (at_builtin; refine wpList_unguard (by rfl) ?_; refine wpList_appR rfl (.tmp 96) (.tmp 97) 27 rfl Tryd.underlying27 hi hz0 hz1 hz2 rfl (by omega) _ _ 0 [] rfl ho0 rfl hrx (iv_one _) (by omega) (by simp) ?_; intro v5 w5 ho5 hB5 _; simp only [Nat.zero_add, List.nil_append] at ho5) | (at_builtin; refine wpList_unguard (by rfl) ?_; refine wpList_appR rfl (.tmp 98) (.tmp 99) 27 rfl Tryd.underlying27 hi hz0 hz1 hz2 rfl (by omega) w5 v5 _ _ rfl ho5 rfl (hry.below hB5) (iv_one _) (by omega) (by have := hB5.size; simp at this; omega) ?_; intro v6 w6 ho6 hB6 _; obtain ⟨A6, c6, rfl, _, hr6⟩ := val_of_own ho6) | fail)
        have bz1 := b9.trans ((hB5.trans hB6).mono (by omega))
        have hrz6 := ((hrz.below ((hB5.trans hB6).mono (by simp))).more (B' := w6.heap.size) (by have := bz1.size; have := hB5.size; have := hB6.size; simp at *; omega))
        rw [← app8] at hr6
        rw [show (x ++ y).length = x.length + y.length from List.length_append] at hrz6
        refine (equalH A6 A3 _ c6 _ c3 (x ++ y) (x ++ y) _ hr6 hrz6 (by omega)).mono ?_
        rintro x w7 ⟨rfl, hb7⟩
        rw [eqB_self]
        have b10 := bz1.trans (hb7.mono bz1.size)
        go_wp2_with fail
        refine (alive8_any _ (Hd.out.below b10)).mono ?_
        rintro x wz ⟨rfl, bz⟩
        go_wp2
        go_ret
        exact ⟨rfl, b10.trans (bz.mono b10.size)⟩
end Go.Proofs.YthlhcengdgmgdaaDoor

/- The walk of Utf8textOrders. -/
import Derived.Test.YthlhcengdgmgdaaDoorU8A
namespace Go.Proofs.YthlhcengdgmgdaaDoor
open Go.RowKit

theorem enc8R_1 (l : List Int) : enc8R l 1 = outS (enc8 1 0 l) := rfl
theorem encStrict (l : List Int) : (∃ k : Nat, enc8R l 1 = ([], 9, (k : Int))) ∨ ((∀ c ∈ l, scalB c = true) ∧ enc8R l 1 = (forms l, 0, 0)) := by
  rcases enc8_strict l 0 with ⟨k, hk⟩ | ⟨ha, hk⟩
  · exact .inl ⟨k, by rw [enc8R_1, hk]; rfl⟩
  · exact .inr ⟨ha, by rw [enc8R_1, hk]; rfl⟩
theorem less8 (a b : List Int) (ha : ∀ c ∈ a, scalB c = true) (hb : ∀ c ∈ b, scalB c = true) : Op.bytesLess (forms a) (forms b) = decide (cmpL a b < 0) := by
  have h := lexP_forms a b ha hb
  have h2 := less_iff (forms a) (forms b)
  cases hx : Op.bytesLess (forms a) (forms b) with
  | true => exact (decide_eq_true (h.2 (h2.1 hx))).symm
  | false => exact (decide_eq_false (fun hc => by rw [h2.2 (h.1 hc)] at hx; cases hx)).symm
theorem same8 (a b : List Int) (ha : ∀ c ∈ a, scalB c = true) (hb : ∀ c ∈ b, scalB c = true) : (forms a == forms b) = (cmpL a b == 0) := by
  by_cases e : a = b
  · subst e; simp [cmpL_self]
  · have h1 : forms a ≠ forms b := fun h => e (forms_inj a b ha hb h)
    have h2 : cmpL a b ≠ 0 := fun h => e (cmpL_zero a b h)
    rw [beq_eq_false_iff_ne.2 h1, beq_eq_false_iff_ne.2 h2]
theorem compareH (A A' : Option Addr) (n c n' c' : Nat) (l m : List Int) (k : Int) (w : World) (h : Reads w w.heap.size 1 A n (l.map iv)) (h' : Reads w w.heap.size 1 A' n' (m.map iv)) (hn : n ≤ 1000000) (hk : cmpL l m = k) :
    Calls Tryd.prog 25 #[.slice A n c, .slice A' n' c'] w fun x w' => x = .returned (.int .i64 k) ∧ Below w.heap.size w w' :=
  (compare_any w.heap.size n c n' c' A A' l m w h h' hn).mono fun x w' ⟨h1, q, h2⟩ => ⟨by rw [h1, hk], by subst h2; exact below_drewN (Below.refl _ _) q⟩
set_option maxRecDepth 100000 in
set_option maxHeartbeats 4000000 in
theorem wk8_orders (A A' : Option Addr) (n cap n' cap' : Nat) (l m : List Int) (w : World) (hr : Reads w w.heap.size 1 A n (l.map iv)) (hr' : Reads w w.heap.size 1 A' n' (m.map iv)) (hd : Dig w) :
    Calls Tryd.prog 10 #[.slice A n cap, .slice A' n' cap'] w fun e w' => e = .returned (.bool true) ∧ Below w.heap.size w w' := by
  have Hd := Lib.hid hd
  clear hd
  by_cases hbig : 100 < n
  · have hbig' : (100 : Int) < (n : Int) := by omega
    go_enter Tryd.func10, Tryd.ntmps10
    go_wp2_with fail
    refine (alive8_any _ (Hd.out)).mono ?_
    rintro x wz ⟨rfl, bz⟩
    go_wp2
    go_ret
    exact ⟨rfl, bz⟩
  have hbig' : ¬ (100 : Int) < (n : Int) := by omega
  by_cases hbig2 : 100 < n'
  · have hbig2' : (100 : Int) < (n' : Int) := by omega
    go_enter Tryd.func10, Tryd.ntmps10
    go_wp2_with fail
    refine (alive8_any _ (Hd.out)).mono ?_
    rintro x wz ⟨rfl, bz⟩
    go_wp2
    go_ret
    exact ⟨rfl, bz⟩
  have hbig2' : ¬ (100 : Int) < (n' : Int) := by omega
  rcases encStrict l with ⟨k1, h1⟩ | ⟨ha, h1⟩
  · rcases encStrict m with ⟨k2, h2⟩ | ⟨hb, h2⟩
    · have H1 := Lib.hid h1
      have H2 := Lib.hid h2
      clear h1 h2
      go_enter Tryd.func10, Tryd.ntmps10
      go_wp2_with fail
      refine (encode8H A n cap l [] 1 9 (k1 : Int) w hr (by omega) Hd.out H1.out).mono ?_
      rintro x w1 ⟨rfl, hb1⟩
      have f1 := hr.stay hb1
      have f2 := hr'.stay hb1
      have b3 := hb1
      clear hr hr'
      have bn4 := below_new w1 (.cells #[.int .i64 9, .int .i64 (k1 : Int)] 24)
      have f5 := Blk.new w1 24 #[.int .i64 9, .int .i64 (k1 : Int)]
      have l8 := f5.cell 0
      have l9 := f5.cell 1
      go_wp2_with fail
      clear l8 l9
      obtain ⟨W6, hW7⟩ : ∃ W, W = w1.alloc (.cells #[.int .i64 9, .int .i64 (k1 : Int)] 24) := ⟨_, rfl⟩
      rw [← hW7] at f5 bn4 ⊢
      clear hW7
      have f10 := f1.stay bn4
      have f11 := f2.stay bn4
      have b12 := b3.trans (bn4.mono b3.size)
      clear b3
      clear f1 f2
      refine (encode8H A' n' cap' m [] 1 9 (k2 : Int) _ f11 (by omega) (Hd.out.below b12) H2.out).mono ?_
      rintro x w2 ⟨rfl, hb2⟩
      have f13 := f10.stay hb2
      have f14 := f11.stay hb2
      have f15 := f5.stay hb2
      have b16 := b12.trans (hb2.mono b12.size)
      clear b12
      clear f10 f11 f5
      have bn17 := below_new w2 (.cells #[.int .i64 9, .int .i64 (k2 : Int)] 24)
      have f18 := Blk.new w2 24 #[.int .i64 9, .int .i64 (k2 : Int)]
      have l21 := (f15.stay bn17).cell 0
      have l22 := (f15.stay bn17).cell 1
      have l23 := f18.cell 0
      have l24 := f18.cell 1
      go_wp2_with fail
      clear l21 l22 l23 l24
      obtain ⟨W19, hW20⟩ : ∃ W, W = w2.alloc (.cells #[.int .i64 9, .int .i64 (k2 : Int)] 24) := ⟨_, rfl⟩
      rw [← hW20] at f18 bn17 ⊢
      clear hW20
      have f25 := f13.stay bn17
      have f26 := f14.stay bn17
      have f27 := f15.stay bn17
      have b28 := b16.trans (bn17.mono b16.size)
      clear b16
      clear f13 f14 f15
      refine (alive8_any _ (Hd.out.below b28)).mono ?_
      rintro x wz ⟨rfl, bz⟩
      go_wp2
      go_ret
      exact ⟨rfl, b28.trans (bz.mono b28.size)⟩
    · clear hb
      have H1 := Lib.hid h1
      have H2 := Lib.hid h2
      clear h1 h2
      go_enter Tryd.func10, Tryd.ntmps10
      go_wp2_with fail
      refine (encode8H A n cap l [] 1 9 (k1 : Int) w hr (by omega) Hd.out H1.out).mono ?_
      rintro x w1 ⟨rfl, hb1⟩
      have f1 := hr.stay hb1
      have f2 := hr'.stay hb1
      have b3 := hb1
      clear hr hr'
      have bn4 := below_new w1 (.cells #[.int .i64 9, .int .i64 (k1 : Int)] 24)
      have f5 := Blk.new w1 24 #[.int .i64 9, .int .i64 (k1 : Int)]
      have l8 := f5.cell 0
      have l9 := f5.cell 1
      go_wp2_with fail
      clear l8 l9
      obtain ⟨W6, hW7⟩ : ∃ W, W = w1.alloc (.cells #[.int .i64 9, .int .i64 (k1 : Int)] 24) := ⟨_, rfl⟩
      rw [← hW7] at f5 bn4 ⊢
      clear hW7
      have f10 := f1.stay bn4
      have f11 := f2.stay bn4
      have b12 := b3.trans (bn4.mono b3.size)
      clear b3
      clear f1 f2
      refine (encode8H A' n' cap' m (forms m) 1 0 0 _ f11 (by omega) (Hd.out.below b12) H2.out).mono ?_
      rintro x w2 ⟨rfl, hb2⟩
      have f13 := f10.stay hb2
      have f14 := f11.stay hb2
      have f15 := f5.stay hb2
      have b16 := b12.trans (hb2.mono b12.size)
      clear b12
      clear f10 f11 f5
      have bn17 := below_new w2 (.cells #[.int .i64 0, .int .i64 0] 24)
      have f18 := Blk.new w2 24 #[.int .i64 0, .int .i64 0]
      have l21 := (f15.stay bn17).cell 0
      have l22 := (f15.stay bn17).cell 1
      have l23 := f18.cell 0
      have l24 := f18.cell 1
      go_wp2_with fail
      clear l21 l22 l23 l24
      obtain ⟨W19, hW20⟩ : ∃ W, W = w2.alloc (.cells #[.int .i64 0, .int .i64 0] 24) := ⟨_, rfl⟩
      rw [← hW20] at f18 bn17 ⊢
      clear hW20
      have f25 := f13.stay bn17
      have f26 := f14.stay bn17
      have f27 := f15.stay bn17
      have b28 := b16.trans (bn17.mono b16.size)
      clear b16
      clear f13 f14 f15
      refine (alive8_any _ (Hd.out.below b28)).mono ?_
      rintro x wz ⟨rfl, bz⟩
      go_wp2
      go_ret
      exact ⟨rfl, b28.trans (bz.mono b28.size)⟩
  · rcases encStrict m with ⟨k2, h2⟩ | ⟨hb, h2⟩
    · clear ha
      have H1 := Lib.hid h1
      have H2 := Lib.hid h2
      clear h1 h2
      go_enter Tryd.func10, Tryd.ntmps10
      go_wp2_with fail
      refine (encode8H A n cap l (forms l) 1 0 0 w hr (by omega) Hd.out H1.out).mono ?_
      rintro x w1 ⟨rfl, hb1⟩
      have f1 := hr.stay hb1
      have f2 := hr'.stay hb1
      have b3 := hb1
      clear hr hr'
      have bn4 := below_new w1 (.cells #[.int .i64 0, .int .i64 0] 24)
      have f5 := Blk.new w1 24 #[.int .i64 0, .int .i64 0]
      have l8 := f5.cell 0
      have l9 := f5.cell 1
      go_wp2_with fail
      clear l8 l9
      obtain ⟨W6, hW7⟩ : ∃ W, W = w1.alloc (.cells #[.int .i64 0, .int .i64 0] 24) := ⟨_, rfl⟩
      rw [← hW7] at f5 bn4 ⊢
      clear hW7
      have f10 := f1.stay bn4
      have f11 := f2.stay bn4
      have b12 := b3.trans (bn4.mono b3.size)
      clear b3
      clear f1 f2
      refine (encode8H A' n' cap' m [] 1 9 (k2 : Int) _ f11 (by omega) (Hd.out.below b12) H2.out).mono ?_
      rintro x w2 ⟨rfl, hb2⟩
      have f13 := f10.stay hb2
      have f14 := f11.stay hb2
      have f15 := f5.stay hb2
      have b16 := b12.trans (hb2.mono b12.size)
      clear b12
      clear f10 f11 f5
      have bn17 := below_new w2 (.cells #[.int .i64 9, .int .i64 (k2 : Int)] 24)
      have f18 := Blk.new w2 24 #[.int .i64 9, .int .i64 (k2 : Int)]
      have l21 := (f15.stay bn17).cell 0
      have l22 := (f15.stay bn17).cell 1
      have l23 := f18.cell 0
      have l24 := f18.cell 1
      go_wp2_with fail
      clear l21 l22 l23 l24
      obtain ⟨W19, hW20⟩ : ∃ W, W = w2.alloc (.cells #[.int .i64 9, .int .i64 (k2 : Int)] 24) := ⟨_, rfl⟩
      rw [← hW20] at f18 bn17 ⊢
      clear hW20
      have f25 := f13.stay bn17
      have f26 := f14.stay bn17
      have f27 := f15.stay bn17
      have b28 := b16.trans (bn17.mono b16.size)
      clear b16
      clear f13 f14 f15
      refine (alive8_any _ (Hd.out.below b28)).mono ?_
      rintro x wz ⟨rfl, bz⟩
      go_wp2
      go_ret
      exact ⟨rfl, b28.trans (bz.mono b28.size)⟩
    · have hls := less8 l m ha hb
      have heq := same8 l m ha hb
      clear ha hb
      obtain ⟨k, hk⟩ : ∃ k, cmpL l m = k := ⟨_, rfl⟩
      rw [hk] at hls heq
      have HK := Lib.hid hk
      generalize forms l = S at *
      generalize forms m = S2 at *
      have HL := Lib.hid hls
      have HE := Lib.hid heq
      clear hk hls heq
      have H1 := Lib.hid h1
      have H2 := Lib.hid h2
      clear h1 h2
      go_enter Tryd.func10, Tryd.ntmps10
      go_wp2_with fail
      refine (encode8H A n cap l S 1 0 0 w hr (by omega) Hd.out H1.out).mono ?_
      rintro x w1 ⟨rfl, hb1⟩
      have f1 := hr.stay hb1
      have f2 := hr'.stay hb1
      have b3 := hb1
      clear hr hr'
      have bn4 := below_new w1 (.cells #[.int .i64 0, .int .i64 0] 24)
      have f5 := Blk.new w1 24 #[.int .i64 0, .int .i64 0]
      have l8 := f5.cell 0
      have l9 := f5.cell 1
      go_wp2_with fail
      clear l8 l9
      obtain ⟨W6, hW7⟩ : ∃ W, W = w1.alloc (.cells #[.int .i64 0, .int .i64 0] 24) := ⟨_, rfl⟩
      rw [← hW7] at f5 bn4 ⊢
      clear hW7
      have f10 := f1.stay bn4
      have f11 := f2.stay bn4
      have b12 := b3.trans (bn4.mono b3.size)
      clear b3
      clear f1 f2
      refine (encode8H A' n' cap' m S2 1 0 0 _ f11 (by omega) (Hd.out.below b12) H2.out).mono ?_
      rintro x w2 ⟨rfl, hb2⟩
      have f13 := f10.stay hb2
      have f14 := f11.stay hb2
      have f15 := f5.stay hb2
      have b16 := b12.trans (hb2.mono b12.size)
      clear b12
      clear f10 f11 f5
      have bn17 := below_new w2 (.cells #[.int .i64 0, .int .i64 0] 24)
      have f18 := Blk.new w2 24 #[.int .i64 0, .int .i64 0]
      have l21 := (f15.stay bn17).cell 0
      have l22 := (f15.stay bn17).cell 1
      have l23 := f18.cell 0
      have l24 := f18.cell 1
      go_wp2_with fail
      clear l21 l22 l23 l24
      obtain ⟨W19, hW20⟩ : ∃ W, W = w2.alloc (.cells #[.int .i64 0, .int .i64 0] 24) := ⟨_, rfl⟩
      rw [← hW20] at f18 bn17 ⊢
      clear hW20
      have f25 := f13.stay bn17
      have f26 := f14.stay bn17
      have f27 := f15.stay bn17
      have b28 := b16.trans (bn17.mono b16.size)
      clear b16
      clear f13 f14 f15
      refine (compareH A A' n cap n' cap' l m k _ f25 f26 (by omega) HK.out).mono ?_
      rintro x w3 ⟨rfl, hb3⟩
      have f29 := f25.stay hb3
      have f30 := f26.stay hb3
      have f31 := f27.stay hb3
      have f32 := f18.stay hb3
      have b33 := b28.trans (hb3.mono b28.size)
      clear b28
      clear f25 f26 f27 f18
      have e1 := HL.out
      have e2 := HE.out
      have l34 := f31.cell 0
      have l35 := f31.cell 1
      have l36 := f32.cell 0
      have l37 := f32.cell 1
      go_wp2_with fail
      refine (alive8_any _ (Hd.out.below b33)).mono ?_
      rintro x wz ⟨rfl, bz⟩
      go_wp2
      go_ret
      exact ⟨rfl, b33.trans (bz.mono b33.size)⟩
end Go.Proofs.YthlhcengdgmgdaaDoor

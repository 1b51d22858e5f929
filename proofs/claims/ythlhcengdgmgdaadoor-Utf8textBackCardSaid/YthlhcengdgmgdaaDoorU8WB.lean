/- The walk of Utf8textBack. -/
import Derived.Test.YthlhcengdgmgdaaDoorU8A
namespace Go.Proofs.YthlhcengdgmgdaaDoor
open Go.RowKit

theorem back8 (l : List Int) (p : Int) (hp : 1 ≤ p ∧ p ≤ 4) (ha : ∀ c ∈ l, scalB c = true) : enc8R l p = (forms l, 0, 0) ∧ dec8R (forms l) p = (l, 0, 0) ∧ val8 (forms l) = true := by
  have hk : known8 p = true := by simp [known8]; omega
  refine ⟨?_, ?_, ?_⟩
  · rw [enc8R, if_pos hk, enc8_all p l 0 ha]; rfl
  · rw [dec8R, if_pos hk, dec8_forms p l _ 0 ha (Nat.le_refl _)]; rfl
  · rw [val8, dec8R, if_pos (show known8 1 = true by rfl), dec8_forms 1 l _ 0 ha (Nat.le_refl _)]; rfl
theorem scal_snoc {l : List Int} {k : Nat} {c : Int} (hc : l[k]? = some c) (h : ∀ x ∈ l.take k, scalB x = true) (hs : scalB c = true) : ∀ x ∈ l.take (k + 1), scalB x = true := by
  obtain ⟨a, b⟩ := List.getElem?_eq_some_iff.1 hc
  rw [List.take_succ_eq_append_getElem a]
  intro x hx
  rcases List.mem_append.1 hx with hx | hx
  · exact h x hx
  · simp at hx; subst hx; rw [b]; exact hs
set_option maxRecDepth 100000 in
set_option maxHeartbeats 4000000 in
theorem wk8_back (A : Option Addr) (n cap : Nat) (l : List Int) (q : Nat) (w : World) (hr : Reads w w.heap.size 1 A n (l.map iv)) (hq : q < 256) (hd : Dig w) :
    Calls Tryd.prog 7 #[.slice A n cap, .int .u8 (q : Int)] w fun e w' => e = .returned (.bool true) ∧ Below w.heap.size w w' := by
  have Hd := Lib.hid hd
  clear hd
  by_cases hbig : 200 < n
  · have hbig' : (200 : Int) < (n : Int) := by omega
    go_enter Tryd.func7, Tryd.ntmps7
    go_wp2_with fail
    refine (alive8_any _ (Hd.out)).mono ?_
    rintro x wz ⟨rfl, bz⟩
    go_wp2
    go_ret
    exact ⟨rfl, bz⟩
  have hbig' : ¬ (200 : Int) < (n : Int) := by omega
  have hpp : 1 ≤ 1 + (q : Int) % 4 ∧ 1 + (q : Int) % 4 ≤ 4 := by omega
  have Hl := Lib.hid (len_of hr)
  have Hr := Lib.hid hr
  have Hb := Lib.hid (fun ha => back8 l (1 + (q : Int) % 4) hpp ha)
  clear hpp hr
  go_enter Tryd.func7, Tryd.ntmps7
  go_wp2
  go_loop [6] (fun i => ∃ k : Nat, k ≤ n ∧ i = .int .i64 (k : Int) ∧ Hid (∀ x ∈ l.take k, scalB x = true)) (fun i => n - (intOf i).toNat)
  case atStart => exact ⟨0, by omega, rfl, by show ∀ x ∈ l.take 0, _; simp⟩
  case round =>
    obtain ⟨k, hk, rfl, hall⟩ := hrel
    by_cases hlt : k < n
    · obtain ⟨ad, u, rfl, hadB, hu, hcell⟩ := Hr.out.at_ hlt
      obtain ⟨c, hc, rfl⟩ := iv_at hu
      cases hs : scalB c with
      | true =>
        have Hn := Lib.hid (scal_snoc hc hall.out hs)
        have Hs := Lib.hid hs
        clear hu hc hs
        go_wp2_with fail
        refine (rscalar_any c _).mono ?_
        rintro e w1 ⟨rfl, rfl⟩
        rw [Hs.out]
        go_wp2
        go_round
        case rel => exact ⟨k + 1, by omega, by go_num, Hn.out⟩
        case measure => simp [intOf]; omega
      | false =>
        have Hs := Lib.hid hs
        clear hu hc hs
        go_wp2_with fail
        refine (rscalar_any c _).mono ?_
        rintro e w1 ⟨rfl, rfl⟩
        rw [Hs.out]
        go_wp2_with fail
        refine (alive8_any _ Hd.out).mono ?_
        rintro e wz ⟨rfl, bz⟩
        go_wp2
        go_ret
        exact ⟨rfl, bz⟩
    · have hall2 : ∀ x ∈ l, scalB x = true := by
        have := hall.out
        rw [List.take_of_length_le (by rw [Hl.out]; omega)] at this
        exact this
      obtain ⟨h1, h2, h3⟩ := Hb.out hall2
      have hfl := forms_len l
      rw [Hl.out] at hfl
      have hll : l.length ≤ 200 := by rw [Hl.out]; omega
      generalize forms l = S at h1 h2 h3 hfl
      have H1 := Lib.hid h1
      have H2 := Lib.hid h2
      have H3 := Lib.hid h3
      have hSl : S.length ≤ 800 := by omega
      have hr := Hr.out
      clear h1 h2 h3 hall2 hfl
      go_wp2_with fail
      refine (encode8H A n cap l S (1 + (q : Int) % 4) 0 0 w hr (by omega) Hd.out H1.out).mono ?_
      rintro x w1 ⟨rfl, hb1⟩
      have f1 := hr.stay hb1
      have b2 := hb1
      clear hr
      have bn3 := below_new w1 (.cells #[.int .i64 0, .int .i64 0] 24)
      have f4 := Blk.new w1 24 #[.int .i64 0, .int .i64 0]
      have l7 := f4.cell 0
      have l8 := f4.cell 1
      go_wp2_with fail
      clear l7 l8
      obtain ⟨W5, hW6⟩ : ∃ W, W = w1.alloc (.cells #[.int .i64 0, .int .i64 0] 24) := ⟨_, rfl⟩
      rw [← hW6] at f4 bn3 ⊢
      clear hW6
      have f9 := f1.stay bn3
      have b10 := b2.trans (bn3.mono b2.size)
      clear b2
      clear f1
      refine (decode8H S l (1 + (q : Int) % 4) 0 0 _ (by omega) (Hd.out.below b10) H2.out).mono ?_
      rintro x w2 ⟨A2, c2, rfl, hr2, hb2⟩
      have f11 := f9.stay hb2
      have f12 := f4.stay hb2
      have b13 := b10.trans (hb2.mono b10.size)
      clear b10
      clear f9 f4
      have bn14 := below_new w2 (.cells #[.int .i64 0, .int .i64 0] 24)
      have f15 := Blk.new w2 24 #[.int .i64 0, .int .i64 0]
      have l18 := (f12.stay bn14).cell 0
      have l19 := (f12.stay bn14).cell 1
      have l20 := f15.cell 0
      have l21 := f15.cell 1
      go_wp2_with fail
      clear l18 l19 l20 l21
      obtain ⟨W16, hW17⟩ : ∃ W, W = w2.alloc (.cells #[.int .i64 0, .int .i64 0] 24) := ⟨_, rfl⟩
      rw [← hW17] at f15 bn14 ⊢
      clear hW17
      have f22 := f11.stay bn14
      have f23 := f12.stay bn14
      have f24 := hr2.stay bn14
      have b25 := b13.trans (bn14.mono b13.size)
      clear b13
      clear f11 f12 hr2
      refine (equalH A2 A l.length c2 n cap l l _ f24 f22 (by omega)).mono ?_
      rintro x w3 ⟨rfl, hb3⟩
      rw [eqB_self]
      have f26 := f22.stay hb3
      have f27 := f23.stay hb3
      have f28 := f24.stay hb3
      have f29 := f15.stay hb3
      have b30 := b25.trans (hb3.mono b25.size)
      clear b25
      clear f22 f23 f24 f15
      have l31 := f27.cell 0
      have l32 := f27.cell 1
      have l33 := f29.cell 0
      have l34 := f29.cell 1
      go_wp2_with fail
      clear l31 l32 l33 l34
      refine (valid8H S true _ (by omega) (Hd.out.below b30) H3.out).mono ?_
      rintro x w4 ⟨rfl, hb4⟩
      have f35 := f26.stay hb4
      have f36 := f27.stay hb4
      have f37 := f28.stay hb4
      have f38 := f29.stay hb4
      have b39 := b30.trans (hb4.mono b30.size)
      clear b30
      clear f26 f27 f28 f29
      have l40 := f36.cell 0
      have l41 := f36.cell 1
      have l42 := f38.cell 0
      have l43 := f38.cell 1
      go_wp2_with fail
      refine (alive8_any _ (Hd.out.below b39)).mono ?_
      rintro x wz ⟨rfl, bz⟩
      go_wp2
      go_ret
      exact ⟨rfl, b39.trans (bz.mono b39.size)⟩
end Go.Proofs.YthlhcengdgmgdaaDoor

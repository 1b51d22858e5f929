/- The walk of Utf16textBytes. -/
import Derived.Test.YtpkikgdcmhbehaaDoorR16P
namespace Go.Proofs.YtpkikgdcmhbehaaDoor
open Go.RowKit

theorem bytR_len (l : List Int) (big mark : Bool) : (bytR l big mark).1.length ≤ 2 * l.length + 2 := by
  have h : ∀ (l : List Int) (i : Nat) (o : List UInt8), byt16 big i l = .ok o → o.length = 2 * l.length := by
    intro l
    induction l with
    | nil => intro i o h; rw [byt16] at h; injection h with h; subst h; rfl
    | cons u l ih =>
      intro i o h
      rw [byt16] at h
      split at h
      · cases hr : byt16 big (i + 1) l with
        | error e => rw [hr] at h; cases h
        | ok o' =>
          rw [hr] at h
          injection h with h
          subst h
          have := ih _ _ hr
          have := pair_len u big
          rw [List.length_append, List.length_cons]; omega
      · cases h
  have hm : (markB big mark).length ≤ 2 := by unfold markB; split <;> simp [pair_len]
  unfold bytR
  cases hr : byt16 big 0 l with
  | error e => simp [preB, outB]
  | ok o' => have := h l 0 o' hr; simp [preB, outB]; omega
theorem unt_len (big : Bool) : ∀ (n : Nat) (l : List UInt8), l.length ≤ n → (unt big l).length ≤ n := by
  intro n
  induction n using Nat.strongRecOn with
  | ind n ih =>
    intro l h
    match l, h with
    | [], _ => simp [unt]
    | [_], _ => simp [unt]
    | _ :: _ :: t, h =>
      simp at h
      have := ih (n - 2) (by omega) t (by omega)
      simp [unt]; omega
theorem bom_len (l : List UInt8) (big : Bool) : (bom l big).1.length ≤ l.length := by
  unfold bom
  split
  · split
    · simp; omega
    · split
      · simp; omega
      · exact Nat.le_refl _
  · exact Nat.le_refl _
theorem untR_len (l : List UInt8) (big : Bool) : (untR l big).1.length ≤ l.length := by
  unfold untR
  split
  · simp
  · exact Nat.le_trans (unt_len _ _ _ (Nat.le_refl _)) (bom_len l big)

set_option maxRecDepth 100000 in
set_option maxHeartbeats 4000000 in
theorem wk_bytes (A : Option Addr) (n cap : Nat) (l : List Int) (s : List UInt8) (f0 f1 : Bool) (w : World) (hr : Reads w w.heap.size 1 A n (l.map iv)) (hd : Dig w) :
    Calls Tryd.prog 5 #[.slice A n cap, .string ⟨s.toArray⟩, .agg #[.bool f0, .bool f1]] w fun e w' => e = .returned (.bool true) ∧ Below w.heap.size w w' := by
  have Hd := Lib.hid hd
  clear hd
  have hK := Blk.new w 31 #[.bool f0, .bool f1]
  have hB := below_new w (.cells #[.bool f0, .bool f1] 31)
  by_cases hbig : 300 < n
  · have hbig' : (300 : Int) < (n : Int) := by omega
    go_enter Tryd.func5, Tryd.ntmps5
    go_wp2_with fail
    refine (awake_any _ (Hd.out.below hB)).mono ?_
    rintro e wz ⟨rfl, bz⟩
    go_wp2
    go_ret
    exact ⟨rfl, hB.trans (bz.mono hB.size)⟩
  have hbig' : ¬ (300 : Int) < (n : Int) := by omega
  by_cases hbig2 : 600 < s.length
  · have hbig2' : (600 : Int) < (s.length : Int) := by omega
    go_enter Tryd.func5, Tryd.ntmps5
    go_wp2_with fail
    refine (awake_any _ (Hd.out.below hB)).mono ?_
    rintro e wz ⟨rfl, bz⟩
    go_wp2
    go_ret
    exact ⟨rfl, hB.trans (bz.mono hB.size)⟩
  have hbig2' : ¬ (600 : Int) < (s.length : Int) := by omega
  have hln := len_of hr
  have hl0 := bytR_len l f0 f1
  obtain ⟨⟨o, e1, a1⟩, hO⟩ : ∃ x, bytR l f0 f1 = x := ⟨_, rfl⟩
  obtain ⟨⟨u, b2, e2, a2⟩, hU⟩ : ∃ x, untR s f0 = x := ⟨_, rfl⟩
  have hul := untR_len s f0
  rw [hO] at hl0
  rw [hU] at hul
  have ho : o.length ≤ 700 := by simp only at hl0; omega
  have hu : u.length ≤ 600 := by simp only at hul; omega
  have HO := Lib.hid hO
  have HU := Lib.hid hU
  clear hO hU hl0 hul hln
  have k0 := hK.cell 0
  have k1 := hK.cell 1
  have hr0 := hr.stay hB
  go_enter Tryd.func5, Tryd.ntmps5
  go_wp2_with fail
  obtain ⟨W0, hW0⟩ : ∃ W, W = w.alloc (.cells #[.bool f0, .bool f1] 31) := ⟨_, rfl⟩
  have hz0 : W0.heap.size = w.heap.size + 1 := by rw [hW0]; simp
  rw [← hW0] at k0 k1 hr0 hK hB ⊢
  clear hW0 hr k0 k1
  refine (bytes_any W0.heap.size n cap A l f0 f1 W0 hr0 (Nat.le_refl _) (by omega)).mono ?_
  rintro x w1 ⟨rfl, hb1⟩
  rw [HO.out]
  have f1 := hr0.stay hb1
  have f2 := hK.stay hb1
  have b3 := hB.trans (hb1.mono hB.size)
  clear hB
  clear hr0 hK
  have bn4 := below_new w1 (.cells #[.int .i64 e1, .int .i64 a1] 26)
  have k0 := (f2.stay bn4).cell 0
  have k1 := (f2.stay bn4).cell 1
  have f5 := Blk.new w1 26 #[.int .i64 e1, .int .i64 a1]
  have l90 := f5.cell 0
  have l91 := f5.cell 1
  have hlk := Blk.lt f2
  go_wp2_with fail
  clear k0 k1 l90 l91 hlk 
  obtain ⟨W6, hW7⟩ : ∃ W, W = w1.alloc (.cells #[.int .i64 e1, .int .i64 a1] 26) := ⟨_, rfl⟩
  rw [← hW7] at f5 bn4 ⊢
  clear hW7
  have f8 := f1.stay bn4
  have f9 := f2.stay bn4
  have b10 := b3.trans (bn4.mono b3.size)
  clear b3
  clear f1 f2
  refine (rbytes_any n cap A l f0 f1 _ f8 (by omega)).mono ?_
  rintro x w2 ⟨rfl, hb2⟩
  rw [HO.out]
  have f11 := f8.stay hb2
  have f12 := f9.stay hb2
  have f13 := f5.stay hb2
  have b14 := b10.trans (hb2.mono b10.size)
  clear b10
  clear f8 f9 f5
  have bn15 := below_new w2 (.cells #[.int .i64 e1, .int .i64 a1] 26)
  have k0 := (f12.stay bn15).cell 0
  have k1 := (f12.stay bn15).cell 1
  have l00 := (f13.stay bn15).cell 0
  have l01 := (f13.stay bn15).cell 1
  have f16 := Blk.new w2 26 #[.int .i64 e1, .int .i64 a1]
  have l90 := f16.cell 0
  have l91 := f16.cell 1
  have hlk := Blk.lt f12
  go_wp2_with fail
  clear k0 k1 l90 l91 hlk l00 l01
  obtain ⟨W17, hW18⟩ : ∃ W, W = w2.alloc (.cells #[.int .i64 e1, .int .i64 a1] 26) := ⟨_, rfl⟩
  rw [← hW18] at f16 bn15 ⊢
  clear hW18
  have f19 := f11.stay bn15
  have f20 := f12.stay bn15
  have f21 := f13.stay bn15
  have b22 := b14.trans (bn15.mono b14.size)
  clear b14
  clear f11 f12 f13
  refine (unitsH s u f0 b2 e2 a2 _ (by omega) HU.out).mono ?_
  rintro x w3 ⟨A3, c3, rfl, hr3, hb3⟩
  have f23 := f19.stay hb3
  have f24 := f20.stay hb3
  have f25 := f21.stay hb3
  have f26 := f16.stay hb3
  have b27 := b22.trans (hb3.mono b22.size)
  clear b22
  clear f19 f20 f21 f16
  have bn28 := below_new w3 (.cells #[.int .i64 e2, .int .i64 a2] 26)
  have k0 := (f24.stay bn28).cell 0
  have k1 := (f24.stay bn28).cell 1
  have l00 := (f25.stay bn28).cell 0
  have l01 := (f25.stay bn28).cell 1
  have l10 := (f26.stay bn28).cell 0
  have l11 := (f26.stay bn28).cell 1
  have f29 := Blk.new w3 26 #[.int .i64 e2, .int .i64 a2]
  have l90 := f29.cell 0
  have l91 := f29.cell 1
  have hlk := Blk.lt f24
  go_wp2_with fail
  clear k0 k1 l90 l91 hlk l00 l01 l10 l11
  obtain ⟨W30, hW31⟩ : ∃ W, W = w3.alloc (.cells #[.int .i64 e2, .int .i64 a2] 26) := ⟨_, rfl⟩
  rw [← hW31] at f29 bn28 ⊢
  clear hW31
  have f32 := f23.stay bn28
  have f33 := f24.stay bn28
  have f34 := f25.stay bn28
  have f35 := f26.stay bn28
  have f36 := hr3.stay bn28
  have b37 := b27.trans (bn28.mono b27.size)
  clear b27
  clear f23 f24 f25 f26 hr3
  refine (runitsH s u f0 b2 e2 a2 _ (by omega) HU.out).mono ?_
  rintro x w4 ⟨A4, c4, rfl, hr4, hb4⟩
  have f38 := f32.stay hb4
  have f39 := f33.stay hb4
  have f40 := f34.stay hb4
  have f41 := f35.stay hb4
  have f42 := f36.stay hb4
  have f43 := f29.stay hb4
  have b44 := b37.trans (hb4.mono b37.size)
  clear b37
  clear f32 f33 f34 f35 f36 f29
  have bn45 := below_new w4 (.cells #[.int .i64 e2, .int .i64 a2] 26)
  have k0 := (f39.stay bn45).cell 0
  have k1 := (f39.stay bn45).cell 1
  have l00 := (f40.stay bn45).cell 0
  have l01 := (f40.stay bn45).cell 1
  have l10 := (f41.stay bn45).cell 0
  have l11 := (f41.stay bn45).cell 1
  have l20 := (f43.stay bn45).cell 0
  have l21 := (f43.stay bn45).cell 1
  have f46 := Blk.new w4 26 #[.int .i64 e2, .int .i64 a2]
  have l90 := f46.cell 0
  have l91 := f46.cell 1
  have hlk := Blk.lt f39
  go_wp2_with fail
  clear k0 k1 l90 l91 hlk l00 l01 l10 l11 l20 l21
  obtain ⟨W47, hW48⟩ : ∃ W, W = w4.alloc (.cells #[.int .i64 e2, .int .i64 a2] 26) := ⟨_, rfl⟩
  rw [← hW48] at f46 bn45 ⊢
  clear hW48
  have f49 := f38.stay bn45
  have f50 := f39.stay bn45
  have f51 := f40.stay bn45
  have f52 := f41.stay bn45
  have f53 := f42.stay bn45
  have f54 := f43.stay bn45
  have f55 := hr4.stay bn45
  have b56 := b44.trans (bn45.mono b44.size)
  clear b44
  clear f38 f39 f40 f41 f42 f43 hr4
  refine (equalH A3 A4 u.length c3 u.length c4 u u _ f53 f55 (by omega)).mono ?_
  rintro x w5 ⟨rfl, hb5⟩
  rw [eqB_self]
  have f57 := f49.stay hb5
  have f58 := f50.stay hb5
  have f59 := f51.stay hb5
  have f60 := f52.stay hb5
  have f61 := f53.stay hb5
  have f62 := f54.stay hb5
  have f63 := f55.stay hb5
  have f64 := f46.stay hb5
  have b65 := b56.trans (hb5.mono b56.size)
  clear b56
  clear f49 f50 f51 f52 f53 f54 f55 f46
  have d0 := f62.cell 0
  have d1 := f62.cell 1
  have d2 := f64.cell 0
  have d3 := f64.cell 1
  go_wp2_with fail
  refine (awake_any _ (Hd.out.below b65)).mono ?_
  rintro e wz ⟨rfl, bz⟩
  go_wp2
  go_ret
  exact ⟨rfl, b65.trans (bz.mono b65.size)⟩
end Go.Proofs.YtpkikgdcmhbehaaDoor

/- The reference's Encode of layer 3. -/
import Derived.Test.YtbcbmmgfdobdiaaDoorU8E
import Derived.Test.YtbcbmmgfdobdiaaDoorR8F
namespace Go.Proofs.YtbcbmmgfdobdiaaDoor
open Go.RowKit

def REnc8Rel (w : World) (l : List Int) (p : Int) (s i : Value) (wr : World) : Prop :=
  ∃ (k : Nat) (out : List UInt8), k ≤ l.length ∧ i = .int .i64 (k : Int) ∧ s = .string ⟨out.toArray⟩ ∧ out.length ≤ 10 * k ∧ Hid (enc8 p 0 l = pre8 out (enc8 p k (l.drop k))) ∧
    Hid (flt8 wr w.heap.size 0 0) ∧ Hid (Below w.heap.size w wr)
theorem renc8_step {w w2 : World} {l : List Int} {p : Int} {k : Nat} {out add S : List UInt8} (hk : k < l.length) (hol : out.length ≤ 10 * k) (hal : add.length ≤ 10)
    (he : enc8 p 0 l = pre8 out (enc8 p k (l.drop k))) (hs : enc8 p k (l.drop k) = pre8 add (enc8 p (k + 1) (l.drop (k + 1)))) (hS : S = out ++ add)
    (hF : flt8 w2 w.heap.size 0 0) (hb : Below w.heap.size w w2) : REnc8Rel w l p (.string ⟨S.toArray⟩) (.int .i64 ((k : Int) + 1)) w2 := by
  subst hS
  refine ⟨k + 1, out ++ add, by omega, by congr 1, rfl, by simp; omega, ?_, hF, hb⟩
  show enc8 p 0 l = _
  rw [he, hs, pre8_pre8]

set_option maxRecDepth 100000 in
set_option maxHeartbeats 4000000 in
theorem rencode8_any (n cap : Nat) (A : Option Addr) (l : List Int) (p : Int) (w : World) (h : Reads w w.heap.size 1 A n (l.map iv)) (hn : n ≤ 100000) :
    Calls Tryd.prog 53 #[.slice A n cap, .int .i64 p] w fun e w' => e = .returned (.tuple #[.string ⟨(enc8R l p).1.toArray⟩, .agg #[.int .i64 (enc8R l p).2.1, .int .i64 (enc8R l p).2.2]]) ∧ Below w.heap.size w w' := by
  have hl : l.length = n := by have := h.1; simpa using this
  cases hkn : known8 p with
  | false =>
    have He := Lib.hid (show enc8R l p = ([], 8, 0) by simp [enc8R, hkn])
    have Hk := Lib.hid hkn
    clear hkn hl
    go_enter Tryd.func53, Tryd.ntmps53
    go_wp2_with fail
    refine (rpolicy_any p _).mono ?_
    rintro e w1 ⟨rfl, rfl⟩
    rw [Hk.out]
    go_wp2
    refine bodyPost_ret (v := .tuple #[.string ⟨#[]⟩, .agg #[.int .i64 8, .int .i64 0]]) (by simp [results, Tryd.results53, go_sem]) rfl ⟨by rw [He.out], ?_⟩
    exact (Below.refl _ _).alloc (Nat.le_refl _) _
  | true =>
    have He := Lib.hid (show enc8R l p = outS (enc8 p 0 l) by simp [enc8R, hkn])
    have hp : 1 ≤ p ∧ p ≤ 4 := by simpa [known8] using hkn
    obtain ⟨hp1, hp4⟩ := hp
    have Hk := Lib.hid hkn
    have Hl := Lib.hid hl
    have H0 := Lib.hid h
    clear hkn hl h
    go_enter Tryd.func53, Tryd.ntmps53
    go_wp2_with fail
    refine (rpolicy_any p _).mono ?_
    rintro e w1 ⟨rfl, rfl⟩
    rw [Hk.out]
    go_wp2_with fail
    go_loopw [6, 7] (fun s i wr => REnc8Rel w l p s i wr) (fun _ i _ => n - (intOf i).toNat)
    case atStart => exact ⟨0, [], Nat.zero_le _, rfl, rfl, by simp, pre8_nil_enc, Blk.new _ _ _, (Below.refl _ _).alloc (Nat.le_refl _) _⟩
    case round =>
      obtain ⟨k, out, hk, rfl, rfl, hol, Hee, HF, Hb⟩ := hrel
      rw [Hl.out] at hk
      have hsz : w.heap.size < wr.heap.size := Blk.lt HF.out
      by_cases hlt : k < n
      · obtain ⟨ad, u, rfl, hadB, hu, hcell⟩ := (H0.out.below Hb.out).at_ hlt
        obtain ⟨c, hc, rfl⟩ := iv_at hu
        have Hdr := Lib.hid (drop_at hc)
        have hkl : k < l.length := by rw [Hl.out]; exact hlt
        clear hu hc
        cases hsc : scalB c with
        | true =>
          have Hsc := Lib.hid hsc
          have hcb := scal_pos hsc
          have Hst := Lib.hid (show enc8 p k (l.drop k) = pre8 (form8 c.toNat) (enc8 p (k + 1) (l.drop (k + 1))) by rw [Hdr.out, enc8, if_pos hsc])
          clear hsc
          obtain ⟨cn, rfl⟩ := Int.eq_ofNat_of_zero_le hcb.1
          clear hcb
          rw [Int.toNat_natCast] at Hst
          have hfl := form8_le cn
          go_wp2_with fail
          refine (rscalar_any (cn : Int) _).mono ?_
          rintro e w1 ⟨rfl, rfl⟩
          rw [Hsc.out]
          go_wp2_with fail
          refine (rform8_any cn _ Hsc.out).mono ?_
          rintro e w2 ⟨rfl, hb2⟩
          generalize form8 cn = X at Hst hfl
          have eA : (⟨out.toArray⟩ : ByteArray) ++ ⟨X.toArray⟩ = ⟨(out ++ X).toArray⟩ := ByteArray.mk_append_mk out X
          obtain ⟨S, hS⟩ : ∃ S, S = out ++ X := ⟨_, rfl⟩
          rw [← hS] at eA
          have hSl : S.length ≤ 2000000 := by rw [hS, List.length_append]; omega
          have HS := Lib.hid hS
          clear hS
          have HR := Lib.hid (renc8_step (add := X) hkl hol (by omega) Hee.out Hst.out HS.out (stayB HF.out hb2) (Hb.out.trans (hb2.mono Hb.out.size)))
          clear hb2
          go_wp2
          go_roundw
          case rel => exact HR.out
          case measure => simp [intOf]; omega
        | false =>
          have Hsc := Lib.hid hsc
          clear hsc
          by_cases hp1' : p = 1
          · subst hp1'
            have Herr := Lib.hid (show enc8R l 1 = ([], 9, (k : Int)) by rw [He.out, Hee.out, Hdr.out, enc8, Hsc.out]; rfl)
            have c0 := HF.out.cell 0
            have c1 := HF.out.cell 1
            have f0 := HF.out.frozen 0
            have f1 := HF.out.frozen 1
            have hF2 := (HF.out.set_ 0 (.int .i64 9)).set_ 1 (.int .i64 (k : Int))
            have d0 := hF2.cell 0
            have d1 := hF2.cell 1
            go_wp2_with fail
            refine (rscalar_any c _).mono ?_
            rintro e w1 ⟨rfl, rfl⟩
            rw [Hsc.out]
            go_wp2
            refine bodyPost_ret (v := .tuple #[.string ⟨#[]⟩, .agg #[.int .i64 9, .int .i64 (k : Int)]]) (by simp [results, Tryd.results53, go_sem] at d0 d1 ⊢; simp [d0, d1]) rfl ⟨by rw [Herr.out], ?_⟩
            exact (Hb.out.setCell (by simp) _).setCell (by simp) _
          · have hp1n : (p == 1) = false := by simp; omega
            have Hst := Lib.hid (show enc8 p k (l.drop k) = pre8 (lost8 c p) (enc8 p (k + 1) (l.drop (k + 1))) by rw [Hdr.out, enc8, Hsc.out, if_neg (by simp), if_neg hp1'])
            by_cases hp2 : p = 2
            · subst hp2
              clear hp1'
              rw [lost8_2] at Hst
              have hfl := form8_le 65533
              go_wp2_with fail
              refine (rscalar_any c _).mono ?_
              rintro e w1 ⟨rfl, rfl⟩
              rw [Hsc.out]
              go_wp2_with fail
              refine (rform8_any 65533 _ (by decide)).mono ?_
              rintro e w2 ⟨rfl, hb2⟩
              generalize form8 65533 = X at Hst hfl
              have eA : (⟨out.toArray⟩ : ByteArray) ++ ⟨X.toArray⟩ = ⟨(out ++ X).toArray⟩ := ByteArray.mk_append_mk out X
              obtain ⟨S, hS⟩ : ∃ S, S = out ++ X := ⟨_, rfl⟩
              rw [← hS] at eA
              have hSl : S.length ≤ 2000000 := by rw [hS, List.length_append]; omega
              have HS := Lib.hid hS
              clear hS
              have HR := Lib.hid (renc8_step (add := X) hkl hol (by omega) Hee.out Hst.out HS.out (stayB HF.out hb2) (Hb.out.trans (hb2.mono Hb.out.size)))
              clear hb2
              go_wp2
              go_roundw
              case rel => exact HR.out
              case measure => simp [intOf]; omega
            · have hp2n : (p == 2) = false := by simp; omega
              by_cases hp3 : p = 4
              · subst hp3
                clear hp1' hp2
                rw [lost8_4] at Hst
                have hhl := hexB_len c
                have hfl : ([92, 117, 123] ++ hexB c ++ [125]).length ≤ 10 := by simp; omega
                go_wp2_with fail
                refine (rscalar_any c _).mono ?_
                rintro e w1 ⟨rfl, rfl⟩
                rw [Hsc.out]
                go_wp2_with fail
                refine (rwritten_any c _).mono ?_
                rintro e w2 ⟨rfl, rfl⟩
                generalize [92, 117, 123] ++ hexB c ++ [125] = X at Hst hfl ⊢
                have eA : (⟨out.toArray⟩ : ByteArray) ++ ⟨X.toArray⟩ = ⟨(out ++ X).toArray⟩ := ByteArray.mk_append_mk out X
                obtain ⟨S, hS⟩ : ∃ S, S = out ++ X := ⟨_, rfl⟩
                rw [← hS] at eA
                have hSl : S.length ≤ 2000000 := by rw [hS, List.length_append]; omega
                have HS := Lib.hid hS
                clear hS
                have HR := Lib.hid (renc8_step (add := X) hkl hol (by omega) Hee.out Hst.out HS.out HF.out Hb.out)
                go_wp2
                go_roundw
                case rel => exact HR.out
                case measure => simp [intOf]; omega
              · obtain rfl : p = 3 := by omega
                rw [lost8_3] at Hst
                clear hp3 hp2 hp1'
                have HR := Lib.hid (renc8_step (add := []) (S := out) hkl hol (by simp) Hee.out Hst.out (by simp) HF.out Hb.out)
                go_wp2_with fail
                refine (rscalar_any c _).mono ?_
                rintro e w1 ⟨rfl, rfl⟩
                rw [Hsc.out]
                go_wp2
                go_roundw
                case rel => exact HR.out
                case measure => simp [intOf]; omega
      · have Hok := Lib.hid (show enc8R l p = (out, 0, 0) by
          rw [He.out, Hee.out, List.drop_of_length_le (by rw [Hl.out]; omega), enc8]; simp [pre8, outS])
        have c0 := HF.out.cell 0
        have c1 := HF.out.cell 1
        have f0 := HF.out.frozen 0
        have f1 := HF.out.frozen 1
        have hF2 := (HF.out.set_ 0 (.int .i64 0)).set_ 1 (.int .i64 0)
        have d0 := hF2.cell 0
        have d1 := hF2.cell 1
        go_wp2
        refine bodyPost_ret (v := .tuple #[.string ⟨out.toArray⟩, .agg #[.int .i64 0, .int .i64 0]]) (by simp [results, Tryd.results53, go_sem] at d0 d1 ⊢; simp [d0, d1]) rfl ⟨by rw [Hok.out], ?_⟩
        exact (Hb.out.setCell (by simp) _).setCell (by simp) _
end Go.Proofs.YtbcbmmgfdobdiaaDoor

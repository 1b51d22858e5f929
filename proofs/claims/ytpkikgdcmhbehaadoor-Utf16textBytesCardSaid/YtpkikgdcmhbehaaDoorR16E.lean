/- The reference of layer 4: Known, Form, Escaped, Encode. -/
import Derived.Test.YtpkikgdcmhbehaaDoorU16E
namespace Go.Proofs.YtpkikgdcmhbehaaDoor
open Go.RowKit

theorem rknown_any (p : Int) (w : World) : Calls Tryd.prog 20 #[.int .i64 p] w fun e w' => e = .returned (.bool (knownB p)) ∧ w = w' := by
  by_cases h1 : 1 ≤ p
  · by_cases h2 : p ≤ 4
    · have H := Lib.hid (show knownB p = true by simp [knownB]; omega)
      go_enter Tryd.func20, Tryd.ntmps20
      go_wp2
      go_ret
      exact ⟨ret_bool H.out.symm, rfl⟩
    · have H := Lib.hid (show knownB p = false by simp [knownB]; omega)
      go_enter Tryd.func20, Tryd.ntmps20
      go_wp2
      go_ret
      exact ⟨ret_bool H.out.symm, rfl⟩
  · have H := Lib.hid (show knownB p = false by simp [knownB]; omega)
    go_enter Tryd.func20, Tryd.ntmps20
    go_wp2
    go_ret
    exact ⟨ret_bool H.out.symm, rfl⟩


set_option maxRecDepth 100000 in
set_option maxHeartbeats 400000 in
theorem rform_any (c : Int) (w : World) (hs : scalB c = true) :
    Calls Tryd.prog 27 #[.int .i64 c] w fun e w' => ∃ v, e = .returned v ∧ w'.ownsRow w.heap.size 3 1 v (form16 c).length ((form16 c).map iv) ∧ Below w.heap.size w w' := by
  have hcb : 0 ≤ c ∧ c ≤ 1114111 := by simp [scalB] at hs; omega
  obtain ⟨hc0, hc1⟩ := hcb
  have Hs := Lib.hid hs
  clear hs
  by_cases hbig : 65535 < c
  · have Hf := Lib.hid (show form16 c = [55296 + (c - 65536) / 1024, 56320 + (c - 65536) % 1024] by rw [form16, if_pos hbig]; rfl)
    have hbig' : ¬ c < 65536 := by omega
    go_enter Tryd.func27, Tryd.ntmps27
    go_wp2_with fail
    refine (rscalar_any c _).mono ?_
    rintro e w1 ⟨rfl, rfl⟩
    rw [Hs.out]
    go_wp2
    go_ret
    exact ⟨_, rfl, by rw [Hf.out]; exact World.ownsRow_lit _ _ _ (Nat.le_refl _) (by unfold maxLen; omega) rfl, (Below.refl _ _).alloc (Nat.le_refl _) _⟩
  · have Hf := Lib.hid (show form16 c = [c] by rw [form16, if_neg hbig])
    have hbig' : c < 65536 := by omega
    clear hbig
    go_enter Tryd.func27, Tryd.ntmps27
    go_wp2_with fail
    refine (rscalar_any c _).mono ?_
    rintro e w1 ⟨rfl, rfl⟩
    rw [Hs.out]
    go_wp2
    go_ret
    exact ⟨_, rfl, by rw [Hf.out]; exact World.ownsRow_lit _ _ _ (Nat.le_refl _) (by unfold maxLen; omega) rfl, (Below.refl _ _).alloc (Nat.le_refl _) _⟩

set_option maxRecDepth 100000 in
set_option maxHeartbeats 400000 in
theorem resc_any (c : Int) (w : World) :
    Calls Tryd.prog 28 #[.int .i64 c] w fun e w' => ∃ v, e = .returned v ∧ w'.ownsRow w.heap.size 3 1 v (esc16 c).length ((esc16 c).map iv) ∧ Below w.heap.size w w' := by
  have hhl := hexB_len c
  go_enter Tryd.func28, Tryd.ntmps28
  go_wp2_with fail
  refine (rhex_any c w).mono ?_
  rintro e w1 ⟨rfl, rfl⟩
  generalize hX : hexB c = X at hhl
  have HX := Lib.hid hX
  clear hX
  have e1 : (⟨#[92, 117, 123]⟩ : ByteArray) ++ ⟨X.toArray⟩ = ⟨([92, 117, 123] ++ X).toArray⟩ := ByteArray.mk_append_mk [92, 117, 123] X
  have e2 : (⟨([92, 117, 123] ++ X).toArray⟩ : ByteArray) ++ ⟨#[125]⟩ = ⟨([92, 117, 123] ++ X ++ [125]).toArray⟩ := ByteArray.mk_append_mk _ [125]
  obtain ⟨S, hS⟩ : ∃ S, S = [92, 117, 123] ++ X ++ [125] := ⟨_, rfl⟩
  obtain ⟨S1, hS1⟩ : ∃ S, S = [92, 117, 123] ++ X := ⟨_, rfl⟩
  rw [← hS1] at e1 hS
  rw [← hS1, ← hS] at e2
  have hSl : S.length ≤ 10 := by rw [hS, hS1]; simp; omega
  have hS1l : S1.length ≤ 9 := by rw [hS1]; simp; omega
  have HS := Lib.hid (hS.trans (by rw [hS1]))
  clear hS hS1
  go_wp2_with fail
  refine (text_any S w (by omega)).mono ?_
  rintro e w1 ⟨v, rfl, ho, hb⟩
  go_wp2
  go_ret
  exact ⟨v, rfl, by rw [esc16, HX.out, ← HS.out, txt_len]; exact ho, hb⟩

set_option maxRecDepth 100000 in
set_option maxHeartbeats 2000000 in
theorem rencode_any (B n cap : Nat) (A : Option Addr) (l : List Int) (p : Int) (w : World) (h : Reads w B 1 A n (l.map iv)) (hB : B ≤ w.heap.size) (hn : n ≤ 100000) :
    Calls Tryd.prog 12 #[.slice A n cap, .int .i64 p] w fun e w' => ∃ v, e = .returned (.tuple #[v, .agg #[.int .i64 (encR l p).2.1, .int .i64 (encR l p).2.2]]) ∧
      w'.ownsRow (w.heap.size + 1) 3 1 v (encR l p).1.length ((encR l p).1.map iv) ∧ Below w.heap.size w w' := by
  obtain ⟨i0, hi, hz0, hz1, hz2⟩ := info_parts Tryd.info3
  have hl : l.length = n := by have := h.1; simpa using this
  cases hkn : knownB p with
  | false =>
    have He := Lib.hid (show encR l p = ([], 8, 0) by simp [encR, hkn])
    have Hk := Lib.hid hkn
    clear hkn hl
    go_enter Tryd.func12, Tryd.ntmps12
    go_wp2_with fail
    refine (rknown_any p _).mono ?_
    rintro e w1 ⟨rfl, rfl⟩
    rw [Hk.out]
    go_wp2
    refine bodyPost_ret (v := .tuple #[.slice none 0 0, .agg #[.int .i64 8, .int .i64 0]]) (by simp [results, Tryd.results12, go_sem]) rfl ⟨_, by rw [He.out], by rw [He.out]; exact World.ownsRow_nil _ _ _ _, ?_⟩
    exact (Below.refl _ _).alloc (Nat.le_refl _) _
  | true =>
    have He := Lib.hid (show encR l p = outR (enc16 p 0 l) by simp [encR, hkn])
    have Hk := Lib.hid hkn
    have Hl := Lib.hid hl
    clear hkn hl
    go_enter Tryd.func12, Tryd.ntmps12
    go_wp2_with fail
    refine (rknown_any p _).mono ?_
    rintro e w1 ⟨rfl, rfl⟩
    rw [Hk.out]
    go_wp2
    go_loopw [6, 7] (fun v i wr => EncRel w l p v i wr) (fun _ i _ => n - (intOf i).toNat)
    case atStart => exact ⟨0, [], Nat.zero_le _, rfl, by simp, by rw [pre_nil]; rfl, World.ownsRow_nil _ _ _ _, Blk.new _ _ _, (Below.refl _ _).alloc (Nat.le_refl _) _⟩
    case round =>
      obtain ⟨k, out, hk, rfl, hol, he, ho, hF, hb⟩ := hrel
      rw [Hl.out] at hk
      have Hee := Lib.hid he
      have HF := Lib.hid hF
      have hsz : w.heap.size < wr.heap.size := Blk.lt hF
      clear he
      by_cases hlt : k < n
      · obtain ⟨ad, u, rfl, hadB, hu, hcell⟩ := (h.below (hb.mono hB)).at_ hlt
        obtain ⟨c, hc, rfl⟩ := iv_at hu
        have Hdr := Lib.hid (drop_at hc)
        have hkl : k < l.length := by rw [Hl.out]; exact hlt
        clear hu hc
        cases hsc : scalB c with
        | true =>
          have Hsc := Lib.hid hsc
          have Hst := Lib.hid (show enc16 p k (l.drop k) = pre (form16 c) (enc16 p (k + 1) (l.drop (k + 1))) by rw [Hdr.out, enc16, if_pos hsc])
          have hfl := form16_len c
          clear hsc
          go_wp2_with fail
          refine (rscalar_any c _).mono ?_
          rintro e w1 ⟨rfl, rfl⟩
          rw [Hsc.out]
          go_wp2_with fail
          refine (rform_any c wr Hsc.out).mono ?_
          rintro e w1 ⟨v1, rfl, ho1, hb1⟩
          obtain ⟨A1, c1, rfl, _, hr1⟩ := val_of_own ho1
          have ho2 := own_below ho hb1
          have hs1 : w.heap.size < w1.heap.size := by have := hb1.size; omega
          go_wp2_with (at_builtin; go_must (refine wpList_appR rfl (.tmp 23) (.tmp 28) 22 rfl Tryd.underlying22 hi hz0 hz1 hz2 rfl (by omega) w1 u6 _ _ rfl ho2 rfl hr1 (iv_one _) (by omega) (by omega) ?_); intro v3 w3 ho3 hB3 _)
          go_roundw
          case rel => exact enc_step (add := form16 c) (w1 := w1) hkl hol (by omega) Hee.out Hst.out (Blk.below HF.out hb1 hsz) (hb.trans (hb1.mono (by omega))) hB3 ho3
          case measure => simp [intOf]; omega
        | false =>
          have Hsc := Lib.hid hsc
          by_cases hp1 : p = 1
          · subst hp1
            have Herr := Lib.hid (show enc16 1 0 l = .error k by rw [Hee.out, Hdr.out, enc16, if_neg (by simp [hsc]), if_pos rfl]; rfl)
            clear hsc
            go_wp2_with fail
            refine (rscalar_any c _).mono ?_
            rintro e w1 ⟨rfl, rfl⟩
            rw [Hsc.out]
            have c0 := hF.cell 0
            have c1 := hF.cell 1
            have f0 := hF.frozen 0
            have f1 := hF.frozen 1
            go_wp2
            have hF2 := (hF.set_ 0 (.int .i64 9)).set_ 1 (.int .i64 (k : Int))
            have d0 := hF2.cell 0
            have d1 := hF2.cell 1
            have He2 := Lib.hid (show encR l 1 = ([], 9, (k : Int)) by rw [He.out, Herr.out]; rfl)
            refine bodyPost_ret (v := .tuple #[.slice none 0 0, .agg #[.int .i64 9, .int .i64 (k : Int)]]) (by simp [results, Tryd.results12, go_sem] at d0 d1 ⊢; simp [d0, d1]) rfl ⟨_, by rw [He2.out], by rw [He2.out]; exact World.ownsRow_nil _ _ _ _, ?_⟩
            exact (hb.setCell (Nat.le_refl _) _).setCell (Nat.le_refl _) _
          · have hp1' : (p == 1) = false := by simpa using hp1
            have Hst := Lib.hid (show enc16 p k (l.drop k) = pre (inst16 c p) (enc16 p (k + 1) (l.drop (k + 1))) by rw [Hdr.out, enc16, if_neg (by simp [hsc]), if_neg hp1])
            have hpk : p = 2 ∨ p = 3 ∨ p = 4 := by have := Hk.out; simp [knownB] at this; omega
            clear hsc hp1
            rcases hpk with rfl | rfl | rfl
            · have Hin := Lib.hid (show inst16 c 2 = [65533] by simp [inst16])
              go_wp2_with fail
              refine (rscalar_any c _).mono ?_
              rintro e w1 ⟨rfl, rfl⟩
              rw [Hsc.out]
              go_wp2_with (at_builtin; go_must (refine wpList_app1 rfl (.tmp 37) (.tmp 38) 22 rfl Tryd.underlying22 hi hz0 hz1 hz2 rfl (by omega) wr u6 _ _ rfl ho _ rfl rfl (by omega) (by omega) ?_); intro v3 w3 ho3 hB3 _)
              go_roundw
              case rel => exact enc_step (add := [65533]) (w1 := wr) hkl hol (by simp) Hee.out (by rw [Hst.out, Hin.out]) HF.out hb hB3 (by simpa [iv] using ho3)
              case measure => simp [intOf]; omega
            · have Hin := Lib.hid (show inst16 c 3 = [] by simp [inst16])
              go_wp2_with fail
              refine (rscalar_any c _).mono ?_
              rintro e w1 ⟨rfl, rfl⟩
              rw [Hsc.out]
              go_wp2
              go_roundw
              case rel => exact enc_step (add := []) (w1 := wr) hkl hol (by simp) Hee.out (by rw [Hst.out, Hin.out]) HF.out hb (Below.refl _ _) (by simpa using ho)
              case measure => simp [intOf]; omega
            · have Hin := Lib.hid (show inst16 c 4 = esc16 c by simp [inst16])
              have hil := esc16_len c
              go_wp2_with fail
              refine (rscalar_any c _).mono ?_
              rintro e w1 ⟨rfl, rfl⟩
              rw [Hsc.out]
              go_wp2_with fail
              refine (resc_any c wr).mono ?_
              rintro e w1 ⟨v1, rfl, ho1, hb1⟩
              obtain ⟨A1, c1, rfl, _, hr1⟩ := val_of_own ho1
              have ho2 := own_below ho hb1
              have hs1 : w.heap.size < w1.heap.size := by have := hb1.size; omega
              go_wp2_with (at_builtin; go_must (refine wpList_appR rfl (.tmp 42) (.tmp 47) 22 rfl Tryd.underlying22 hi hz0 hz1 hz2 rfl (by omega) w1 u6 _ _ rfl ho2 rfl hr1 (iv_one _) (by omega) (by omega) ?_); intro v3 w3 ho3 hB3 _)
              go_roundw
              case rel => exact enc_step (add := esc16 c) (w1 := w1) hkl hol hil Hee.out (by rw [Hst.out, Hin.out]) (Blk.below HF.out hb1 hsz) (hb.trans (hb1.mono (by omega))) hB3 ho3
              case measure => simp [intOf]; omega
      · have He2 := Lib.hid (show encR l p = (out, 0, 0) by
          rw [He.out, Hee.out, List.drop_of_length_le (by rw [Hl.out]; omega), enc16]; simp [pre, outR])
        have c0 := hF.cell 0
        have c1 := hF.cell 1
        have f0 := hF.frozen 0
        have f1 := hF.frozen 1
        have hF2 := (hF.set_ 0 (.int .i64 0)).set_ 1 (.int .i64 0)
        have d0 := hF2.cell 0
        have d1 := hF2.cell 1
        obtain ⟨A1, c2, rfl, _, hr1⟩ := val_of_own ho
        go_wp2
        refine bodyPost_ret (v := .tuple #[.slice A1 out.length c2, .agg #[.int .i64 0, .int .i64 0]]) (by simp [results, Tryd.results12, go_sem] at d0 d1 ⊢; simp [d0, d1]) rfl ⟨_, by rw [He2.out], ?_, ?_⟩
        · rw [He2.out]
          exact ownsRow_setCell_below (ownsRow_setCell_below ho (by simp) _) (by simp) _
        · exact (hb.setCell (Nat.le_refl _) _).setCell (Nat.le_refl _) _
end Go.Proofs.YtpkikgdcmhbehaaDoor

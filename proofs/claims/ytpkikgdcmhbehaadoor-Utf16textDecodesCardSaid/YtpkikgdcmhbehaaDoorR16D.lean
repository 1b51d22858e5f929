/- The reference of layer 4: Decode. -/
import Derived.Test.YtpkikgdcmhbehaaDoorR16B
import Derived.Test.YtpkikgdcmhbehaaDoorR16E
namespace Go.Proofs.YtpkikgdcmhbehaaDoor
open Go.RowKit

theorem beg_ok {p : Int} {k : Nat} {m : List Int} {c j : Int} (h : begB m = (c, j, true)) : ∃ jn : Nat, j = jn ∧ 1 ≤ jn ∧ jn ≤ m.length ∧ dec16 p k m = pre [c] (dec16 p (k + jn) (m.drop jn)) := by
  match m with
  | [] => simp [begB] at h
  | [u] =>
    cases hb : bmp u with
    | false => simp [begB, hb] at h
    | true =>
      obtain ⟨rfl, rfl⟩ : u = c ∧ 1 = j := by simpa [begB, hb] using h
      exact ⟨1, rfl, by omega, by simp, by rw [dec_bmp hb]; rfl⟩
  | u :: v :: t =>
    by_cases hj : high u = true ∧ low v = true
    · obtain ⟨rfl, rfl⟩ : jn u v = c ∧ 2 = j := by simpa [begB, hj.1, hj.2] using h
      refine ⟨2, rfl, by omega, by simp, ?_⟩
      rw [dec_pair (by have := hj.1; simp [high] at this; simp [bmp]; omega) hj]
      rfl
    · rw [begB, if_neg hj] at h
      cases hb : bmp u with
      | false => simp [hb] at h
      | true =>
        obtain ⟨rfl, rfl⟩ : u = c ∧ 1 = j := by simpa [hb] using h
        exact ⟨1, rfl, by omega, by simp, by rw [dec_bmp hb]; rfl⟩
theorem beg_no {p : Int} {k : Nat} {u : Int} {m : List Int} {c j : Int} (h : begB (u :: m) = (c, j, false)) : j = 1 ∧ dec16 p k (u :: m) = if p = 1 then .error k else pre (inst16 u p) (dec16 p (k + 1) m) := by
  cases m with
  | nil =>
    cases hb : bmp u with
    | true => simp [begB, hb] at h
    | false =>
      obtain ⟨_, rfl⟩ : 0 = c ∧ 1 = j := by simpa [begB, hb] using h
      exact ⟨rfl, dec_bad hb (by simp)⟩
  | cons v t =>
    by_cases hj : high u = true ∧ low v = true
    · rw [begB, if_pos hj] at h; simp at h
    · rw [begB, if_neg hj] at h
      cases hb : bmp u with
      | true => simp [hb] at h
      | false =>
        obtain ⟨_, rfl⟩ : 0 = c ∧ 1 = j := by simpa [hb] using h
        exact ⟨rfl, dec_bad hb (by intro v' hv; simp at hv; subst hv; exact hj)⟩

set_option maxRecDepth 100000 in
set_option maxHeartbeats 4000000 in
theorem rdecode_any (B n cap : Nat) (A : Option Addr) (l : List Int) (p : Int) (w : World) (h : Reads w B 1 A n (l.map iv)) (hB : B ≤ w.heap.size) (hn : n ≤ 100000) (hc : n ≤ cap) :
    Calls Tryd.prog 15 #[.slice A n cap, .int .i64 p] w fun e w' => ∃ v, e = .returned (.tuple #[v, .agg #[.int .i64 (decR l p).2.1, .int .i64 (decR l p).2.2]]) ∧
      w'.ownsRow (w.heap.size + 1) 3 1 v (decR l p).1.length ((decR l p).1.map iv) ∧ Below w.heap.size w w' := by
  obtain ⟨i0, hi, hz0, hz1, hz2⟩ := info_parts Tryd.info3
  have hl : l.length = n := by have := h.1; simpa using this
  cases hkn : knownB p with
  | false =>
    have He := Lib.hid (show decR l p = ([], 8, 0) by simp [decR, hkn])
    have Hk := Lib.hid hkn
    clear hkn hl
    go_enter Tryd.func15, Tryd.ntmps15
    go_wp2_with fail
    refine (rknown_any p _).mono ?_
    rintro e w1 ⟨rfl, rfl⟩
    rw [Hk.out]
    go_wp2
    refine bodyPost_ret (v := .tuple #[.slice none 0 0, .agg #[.int .i64 8, .int .i64 0]]) (by simp [results, Tryd.results15, go_sem]) rfl ⟨_, by rw [He.out], by rw [He.out]; exact World.ownsRow_nil _ _ _ _, ?_⟩
    exact (Below.refl _ _).alloc (Nat.le_refl _) _
  | true =>
    have He := Lib.hid (show decR l p = outR (dec16 p 0 l) by simp [decR, hkn])
    have Hk := Lib.hid hkn
    have Hl := Lib.hid hl
    clear hkn hl
    go_enter Tryd.func15, Tryd.ntmps15
    go_wp2_with fail
    refine (rknown_any p _).mono ?_
    rintro e w1 ⟨rfl, rfl⟩
    rw [Hk.out]
    go_wp2
    go_loopw [6, 7] (fun v i wr => DecRel w l p v i wr) (fun _ i _ => n - (intOf i).toNat)
    case atStart => exact ⟨0, [], Nat.zero_le _, rfl, by simp, by rw [pre_nil]; rfl, World.ownsRow_nil _ _ _ _, Blk.new _ _ _, (Below.refl _ _).alloc (Nat.le_refl _) _⟩
    case round =>
      obtain ⟨k, out, hk, rfl, hol, he, ho, hF, hb⟩ := hrel
      rw [Hl.out] at hk
      have Hee := Lib.hid he
      have HF := Lib.hid hF
      have hsz : w.heap.size < wr.heap.size := Blk.lt hF
      clear he
      by_cases hlt : k < n
      · have Hcut := Lib.hid ((h.below (hb.mono hB)).cut (k := k) (cap := cap) hk hc)
        obtain ⟨ad, uu, rfl, hadB, hu, hcell⟩ := (h.below (hb.mono hB)).at_ hlt
        obtain ⟨u, hcu, rfl⟩ := iv_at hu
        have Hdr := Lib.hid (drop_at hcu)
        have hkl : k < l.length := by rw [Hl.out]; exact hlt
        clear hu hcu
        have hckn : ¬ cap = k := by omega
        have Hbg : ∀ W, W = wr → Calls Tryd.prog 21 #[.slice (some (ad.add k)) (n - k) (cap - k)] W fun e w' => e = .returned (.tuple #[.int .i64 (begB (l.drop k)).1, .int .i64 (begB (l.drop k)).2.1, .bool (begB (l.drop k)).2.2]) ∧ W = w' := by
          rintro W rfl
          have := Hcut.out
          rw [if_neg hckn, Nat.mul_one, ← List.map_drop] at this
          exact begin_any B (n - k) (cap - k) _ _ W this (by rw [Hdr.out]; simp)
        obtain ⟨c, j, b, hbg⟩ : ∃ c j b, begB (l.drop k) = (c, j, b) := ⟨_, _, _, rfl⟩
        rw [hbg] at Hbg
        have HBG := Lib.hid Hbg
        clear Hbg
        cases b with
        | true =>
          obtain ⟨jn, rfl, h1, h2, hst⟩ := beg_ok (p := p) (k := k) hbg
          have Hst := Lib.hid hst
          rw [List.drop_drop] at Hst
          have h2' : k + jn ≤ l.length := by rw [List.length_drop] at h2; omega
          have h3 : k + jn ≤ n := by rw [← Hl.out]; exact h2'
          clear hst h2 hbg
          go_wp2_with fail
          refine (HBG.out _ rfl).mono ?_
          rintro e w1 ⟨rfl, rfl⟩
          go_wp2_with (at_builtin; go_must (refine wpList_app1 rfl (.tmp 28) (.tmp 30) 22 rfl Tryd.underlying22 hi hz0 hz1 hz2 rfl (by omega) wr u6 _ _ rfl ho _ rfl rfl (by omega) (by omega) ?_); intro v3 w3 ho3 hB3 _)
          go_roundw
          case rel => exact dec_step (j := jn) (add := [c]) (w1 := wr) (by omega) (by omega) hol (by simp) Hee.out Hst.out HF.out hb hB3 (by go_num) (by simpa [iv] using ho3)
          case measure => simp [intOf]; omega
        | false =>
          rw [Hdr.out] at hbg
          obtain ⟨rfl, hst⟩ := beg_no (p := p) (k := k) hbg
          rw [← Hdr.out] at hst
          by_cases hp1 : p = 1
          · subst hp1
            have Herr := Lib.hid (show dec16 1 0 l = .error k by rw [Hee.out, hst, if_pos rfl]; rfl)
            clear hst hbg
            go_wp2_with fail
            refine (HBG.out _ rfl).mono ?_
            rintro e w1 ⟨rfl, rfl⟩
            have c0 := hF.cell 0
            have c1 := hF.cell 1
            have f0 := hF.frozen 0
            have f1 := hF.frozen 1
            go_wp2
            have hF2 := (hF.set_ 0 (.int .i64 9)).set_ 1 (.int .i64 (k : Int))
            have d0 := hF2.cell 0
            have d1 := hF2.cell 1
            have He2 := Lib.hid (show decR l 1 = ([], 9, (k : Int)) by rw [He.out, Herr.out]; rfl)
            refine bodyPost_ret (v := .tuple #[.slice none 0 0, .agg #[.int .i64 9, .int .i64 (k : Int)]]) (by simp [results, Tryd.results15, go_sem] at d0 d1 ⊢; simp [d0, d1]) rfl ⟨_, by rw [He2.out], by rw [He2.out]; exact World.ownsRow_nil _ _ _ _, ?_⟩
            exact (hb.setCell (Nat.le_refl _) _).setCell (Nat.le_refl _) _
          · have hp1' : (p == 1) = false := by simpa using hp1
            rw [if_neg hp1] at hst
            have Hst := Lib.hid hst
            have hpk : p = 2 ∨ p = 3 ∨ p = 4 := by have := Hk.out; simp [knownB] at this; omega
            clear hst hbg hp1
            rcases hpk with rfl | rfl | rfl
            · have Hin := Lib.hid (show inst16 u 2 = [65533] by simp [inst16])
              go_wp2_with fail
              refine (HBG.out _ rfl).mono ?_
              rintro e w1 ⟨rfl, rfl⟩
              go_wp2_with (at_builtin; go_must (refine wpList_app1 rfl (.tmp 42) (.tmp 43) 22 rfl Tryd.underlying22 hi hz0 hz1 hz2 rfl (by omega) wr u6 _ _ rfl ho _ rfl rfl (by omega) (by omega) ?_); intro v3 w3 ho3 hB3 _)
              go_roundw
              case rel => exact dec_step (j := 1) (add := [65533]) (w1 := wr) (by omega) (by omega) hol (by simp) Hee.out (by rw [Hst.out, Hin.out]) HF.out hb hB3 (by go_num) (by simpa [iv] using ho3)
              case measure => simp [intOf]; omega
            · have Hin := Lib.hid (show inst16 u 3 = [] by simp [inst16])
              go_wp2_with fail
              refine (HBG.out _ rfl).mono ?_
              rintro e w1 ⟨rfl, rfl⟩
              go_wp2
              go_roundw
              case rel => exact dec_step (j := 1) (add := []) (w1 := wr) (by omega) (by omega) hol (by simp) Hee.out (by rw [Hst.out, Hin.out]) HF.out hb (Below.refl _ _) (by go_num) (by simpa using ho)
              case measure => simp [intOf]; omega
            · have Hin := Lib.hid (show inst16 u 4 = esc16 u by simp [inst16])
              have hil := esc16_len u
              go_wp2_with fail
              refine (HBG.out _ rfl).mono ?_
              rintro e w1 ⟨rfl, rfl⟩
              go_wp2_with fail
              refine (resc_any u wr).mono ?_
              rintro e w1 ⟨v1, rfl, ho1, hb1⟩
              obtain ⟨A1, c1, rfl, _, hr1⟩ := val_of_own ho1
              have ho2 := own_below ho hb1
              have hs1 : w.heap.size < w1.heap.size := by have := hb1.size; omega
              go_wp2_with (at_builtin; go_must (refine wpList_appR rfl (.tmp 47) (.tmp 52) 22 rfl Tryd.underlying22 hi hz0 hz1 hz2 rfl (by omega) w1 u6 _ _ rfl ho2 rfl hr1 (iv_one _) (by omega) (by omega) ?_); intro v3 w3 ho3 hB3 _)
              go_roundw
              case rel => exact dec_step (j := 1) (add := esc16 u) (w1 := w1) (by omega) (by omega) hol hil Hee.out (by rw [Hst.out, Hin.out]) (Blk.below HF.out hb1 hsz) (hb.trans (hb1.mono (by omega))) hB3 (by go_num) ho3
              case measure => simp [intOf]; omega
      · have He2 := Lib.hid (show decR l p = (out, 0, 0) by
          rw [He.out, Hee.out, List.drop_of_length_le (by rw [Hl.out]; omega), dec16]; simp [pre, outR])
        have c0 := hF.cell 0
        have c1 := hF.cell 1
        have f0 := hF.frozen 0
        have f1 := hF.frozen 1
        have hF2 := (hF.set_ 0 (.int .i64 0)).set_ 1 (.int .i64 0)
        have d0 := hF2.cell 0
        have d1 := hF2.cell 1
        obtain ⟨A1, c2, rfl, _, hr1⟩ := val_of_own ho
        go_wp2
        refine bodyPost_ret (v := .tuple #[.slice A1 out.length c2, .agg #[.int .i64 0, .int .i64 0]]) (by simp [results, Tryd.results15, go_sem] at d0 d1 ⊢; simp [d0, d1]) rfl ⟨_, by rw [He2.out], ?_, ?_⟩
        · rw [He2.out]
          exact ownsRow_setCell_below (ownsRow_setCell_below ho (by simp) _) (by simp) _
        · exact (hb.setCell (Nat.le_refl _) _).setCell (Nat.le_refl _) _
end Go.Proofs.YtpkikgdcmhbehaaDoor

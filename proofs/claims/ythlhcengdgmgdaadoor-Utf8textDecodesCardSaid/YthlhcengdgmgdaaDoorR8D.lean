/- The reference's Bytes, Decode, Valid of layer 3. -/
import Derived.Test.YthlhcengdgmgdaaDoorU8D
import Derived.Test.YthlhcengdgmgdaaDoorR8S
import Derived.Test.YthlhcengdgmgdaaDoorR8F
namespace Go.Proofs.YthlhcengdgmgdaaDoor
open Go.RowKit

theorem digs_at : ∀ x : Fin 16, ((⟨#[48, 49, 50, 51, 52, 53, 54, 55, 56, 57, 65, 66, 67, 68, 69, 70]⟩ : ByteArray)[x.val]'(by have := x.isLt; exact this)).toNat = (dg x.val).toNat := by decide +kernel

set_option maxRecDepth 100000 in
set_option maxHeartbeats 2000000 in
theorem rbytes8_any (s : List UInt8) (w : World) (hs : s.length ≤ 1000000) :
    Calls Tryd.prog 40 #[.string ⟨s.toArray⟩] w fun e w' => ∃ v', e = .returned v' ∧ w'.ownsRow w.heap.size 3 1 v' (4 * s.length) ((esc8 s).map iv) ∧ Below w.heap.size w w' := by
  obtain ⟨i0, hi, hz0, hz1, hz2⟩ := info_parts Tryd.info3
  go_enter Tryd.func40, Tryd.ntmps40
  go_wp2
  go_loopw [3, 4] (fun v i wr => ∃ k : Nat, k ≤ s.length ∧ i = .int .i64 k ∧ wr.ownsRow w.heap.size 3 1 v (4 * k) ((esc8 (s.take k)).map iv) ∧ Below w.heap.size w wr) (fun _ i _ => s.length - (intOf i).toNat)
  case atStart => exact ⟨0, Nat.zero_le _, rfl, World.ownsRow_nil _ _ _ _, Below.refl _ _⟩
  case round =>
    obtain ⟨k, hk, rfl, ho, hb⟩ := hrel
    by_cases hlt : k < s.length
    · obtain ⟨x, hx, hx2, hx256⟩ := byte8_at (s := s) (k := k) hlt
      have Hs := Lib.hid (esc8_snoc s k hlt)
      have He1 := Lib.hid (show (esc1 s[k]).map iv = [.int .i64 92, .int .i64 120, .int .i64 ((dg (x / 16)).toNat : Int), .int .i64 ((dg (x % 16)).toNat : Int)] by rw [esc1, hx2]; rfl)
      have hk3 : (k : Int) < (s.length : Int) := by omega
      clear hx2
      have g1 := digs_at ⟨x / 16, by omega⟩
      have g2 := digs_at ⟨x % 16, by omega⟩
      simp only at g1 g2
      have ha := (dg (x / 16)).toNat_lt
      have hbb := (dg (x % 16)).toNat_lt
      have hbz := hb.size
      generalize (dg (x / 16)).toNat = a at He1 ha g1
      generalize (dg (x % 16)).toNat = b at He1 hbb g2
      have qa : IntKind.i64.wrap (a : Int) = (a : Int) := IntWalk.i64_in _ (by omega)
      have qb : IntKind.i64.wrap (b : Int) = (b : Int) := IntWalk.i64_in _ (by omega)
      have Qa := Lib.hid qa
      have Qb := Lib.hid qb
      clear qa qb
      go_wp2
      have q1 : IntKind.u8.wrap ((x : Int) / 16) = (x : Int) / 16 := by rw [IntKind.wrap_u8]; omega
      have q2 : IntKind.u8.wrap ((x : Int) % 16) = (x : Int) % 16 := by rw [IntKind.wrap_u8]; omega
      have q4 : (x : Int).tmod 16 = (x : Int) % 16 := Int.tmod_eq_emod_of_nonneg (by omega)
      have r1 : 0 ≤ (x : Int) / 16 := by omega
      have r2 : (x : Int) / 16 < 16 := by omega
      have r3 : ((x : Int) / 16).toNat = x / 16 := by omega
      have t1 : 0 ≤ (x : Int) % 16 := by omega
      have t2 : (x : Int) % 16 < 16 := by omega
      have t3 : ((x : Int) % 16).toNat = x % 16 := by omega
      go_region_held3 (fun _ => True) (trivial) ((refine step_appN (by rfl) (.tmp 11) (.tmp 24) 27 (by rfl) Tryd.underlying27 hi hz0 hz1 hz2 rfl (by omega) u3 (4 * k) ((esc8 (s.take k)).map iv) (by rfl) ((ho.alloc _).drew) [.int .i64 92, .int .i64 120, .int .i64 (IntKind.i64.wrap (a : Int)), .int .i64 (IntKind.i64.wrap (b : Int))] 4 (by omega) rfl ⟨wr.heap.size, 0, none⟩ (by rfl) (World.news_of_block (cs := #[.int .i64 92, .int .i64 120, .int .i64 (IntKind.i64.wrap (a : Int)), .int .i64 (IntKind.i64.wrap (b : Int))]) (t := 3) (fr := (0, 0)) (heap_alloc_new wr _)) (by simp [Value.oneCell']) (by omega) (by simp; omega) ?_; intro v3 w3 ho3 hB3 _))
      all_goals
        clear q1 q2 q4 r1 r2 r3 t1 t2 t3 g1 g2
        have HB := Lib.hid (hb.trans (((((Below.refl _ _).alloc hbz _).drew).trans hB3)))
        clear hB3
        rw [Qa.out, Qb.out, ← He1.out, ← List.map_append, ← Hs.out] at ho3
        go_wp2
        go_roundw
        case rel => exact ⟨k + 1, by omega, by go_num, by rw [show 4 * (k + 1) = 4 * k + 4 by omega]; exact ho3, HB.out⟩
        case measure => simp [intOf]; omega
    · have Ht := Lib.hid (show s.take k = s from List.take_of_length_le (by omega))
      obtain rfl : k = s.length := by omega
      rw [Ht.out] at ho
      go_wp2
      go_ret
      exact ⟨u3, rfl, ho, hb⟩
set_option maxRecDepth 100000 in
set_option maxHeartbeats 4000000 in
theorem rdecode8_any (s : List UInt8) (p : Int) (w : World) (hs : s.length ≤ 100000) :
    Calls Tryd.prog 21 #[.string ⟨s.toArray⟩, .int .i64 p] w fun e w' => ∃ v, e = .returned (.tuple #[v, .agg #[.int .i64 (dec8R s p).2.1, .int .i64 (dec8R s p).2.2]]) ∧
      w'.ownsRow (w.heap.size + 1) 3 1 v (dec8R s p).1.length ((dec8R s p).1.map iv) ∧ Below w.heap.size w w' := by
  obtain ⟨i0, hi, hz0, hz1, hz2⟩ := info_parts Tryd.info3
  cases hkn : known8 p with
  | false =>
    have He := Lib.hid (show dec8R s p = ([], 8, 0) by simp [dec8R, hkn])
    have Hk := Lib.hid hkn
    clear hkn
    go_enter Tryd.func21, Tryd.ntmps21
    go_wp2_with fail
    refine (rpolicy_any p _).mono ?_
    rintro e w1 ⟨rfl, rfl⟩
    rw [Hk.out]
    go_wp2
    refine bodyPost_ret (v := .tuple #[.slice none 0 0, .agg #[.int .i64 8, .int .i64 0]]) (by simp [results, Tryd.results21, go_sem]) rfl ⟨_, by rw [He.out], by rw [He.out]; exact World.ownsRow_nil _ _ _ _, ?_⟩
    exact (Below.refl _ _).alloc (Nat.le_refl _) _
  | true =>
    have He := Lib.hid (show dec8R s p = outI (dec8 p s.length 0 s) by simp [dec8R, hkn])
    have hp : 1 ≤ p ∧ p ≤ 4 := by simpa [known8] using hkn
    obtain ⟨hp1, hp4⟩ := hp
    have Hk := Lib.hid hkn
    clear hkn
    go_enter Tryd.func21, Tryd.ntmps21
    go_wp2_with fail
    refine (rpolicy_any p _).mono ?_
    rintro e w1 ⟨rfl, rfl⟩
    rw [Hk.out]
    go_wp2_with fail
    go_loopw [6, 7] (fun v i wr => Dec8Rel w s p v i wr) (fun _ i _ => s.length - (intOf i).toNat)
    case atStart => exact ⟨0, s.length, [], Nat.zero_le _, rfl, by simp, by simp, by show _ = _; rw [pre8_nil]; rfl, World.ownsRow_nil _ _ _ _, Blk.new _ _ _, (Below.refl _ _).alloc (Nat.le_refl _) _⟩
    case round =>
      obtain ⟨k, f, out, hk, rfl, hf, hol, Hee, ho, HF, Hb⟩ := hrel
      have hsz : w.heap.size + 1 ≤ wr.heap.size := Blk.lt HF.out
      by_cases hlt : k < s.length
      · have hne : s.drop k ≠ [] := by intro e; have := congrArg List.length e; rw [List.length_drop, List.length_nil] at this; omega
        have hbd := step8_bd _ hne
        have hx1 := ext_drop s k
        obtain ⟨⟨c, n, ok⟩, hst⟩ : ∃ x, step8 (s.drop k) = x := ⟨_, rfl⟩
        rw [hst] at hbd
        simp only at hbd
        obtain ⟨hn1, hn4, hn3⟩ := hbd
        have hTl : (s.drop k).length = s.length - k := List.length_drop
        rw [hTl] at hn3
        obtain ⟨g, rfl⟩ : ∃ g, f = g + 1 := ⟨f - 1, by rw [hTl] at hf; omega⟩
        have hx2 := ext_part s k n
        have Hnx := Lib.hid (fun (add : List Int) (v2 : Value) (w2 : World) h1 h2 h3 h4 h5 => dec8_next (w := w) (w2 := w2) (p := p) (add := add) (v2 := v2) hn1 (show k + n ≤ s.length by omega) hf hol h1 Hee.out h2 h3 h4 h5)
        have Hst := Lib.hid hst
        have Hne := Lib.hid hne
        have Hf := Lib.hid hf
        have hpl : ((s.drop k).take n).length ≤ 4 := by rw [List.length_take]; omega
        clear hst hne hf
        have hTl2 : (s.drop k).length ≤ 1000000 := by omega
        have HTl := Lib.hid hTl
        clear hTl
        generalize hT : s.drop k = T at hx1 hx2 Hst Hne hpl hTl2 HTl
        have HT := Lib.hid hT
        clear hT
        generalize hP : T.take n = P at hx2 hpl
        have HP := Lib.hid hP
        clear hP
        have hkn1 : (k : Int) + (n : Int) ≤ (s.length : Int) := by omega
        have hkn2 : k + n ≤ s.length := by omega
        cases ok with
        | true =>
          have Hs := Lib.hid (show dec8 p (g + 1) k (s.drop k) = pre8 [(c : Int)] (dec8 p g (k + n) ((s.drop k).drop n)) by rw [HT.out]; exact dec8_ok Hne.out Hst.out)
          go_wp2_with fail
          refine (rstep8H T c n true _ hTl2 Hst.out).mono ?_
          rintro e w1 ⟨rfl, rfl⟩
          go_wp2_with (at_builtin; go_must (refine wpList_app1 rfl (.tmp 29) (.tmp 31) 27 rfl Tryd.underlying27 hi hz0 hz1 hz2 rfl (by omega) wr u6 _ _ rfl ho _ rfl rfl (by omega) hsz ?_); intro v3 w3 ho3 hB3 _)
          go_roundw
          case rel => exact Hnx.out [(c : Int)] _ _ (by simp; omega) Hs.out (Blk.below HF.out hB3 (by omega)) (Hb.out.trans (hB3.mono (by omega))) ho3
          case measure => simp [intOf]; omega
        | false =>
          by_cases hp1' : p = 1
          · subst hp1'
            have Herr := Lib.hid (show dec8R s 1 = ([], 9, (k : Int)) by rw [He.out, Hee.out, HT.out, dec8_fail Hne.out Hst.out]; rfl)
            have c0 := HF.out.cell 0
            have c1 := HF.out.cell 1
            have f0 := HF.out.frozen 0
            have f1 := HF.out.frozen 1
            have hF2 := (HF.out.set_ 0 (.int .i64 9)).set_ 1 (.int .i64 (k : Int))
            have d0 := hF2.cell 0
            have d1 := hF2.cell 1
            have hsub : (k : Int) + (n : Int) - (n : Int) = (k : Int) := by omega
            go_wp2_with fail
            refine (rstep8H T c n false _ hTl2 Hst.out).mono ?_
            rintro e w1 ⟨rfl, rfl⟩
            go_wp2
            refine bodyPost_ret (v := .tuple #[.slice none 0 0, .agg #[.int .i64 9, .int .i64 (k : Int)]]) (by simp [results, Tryd.results21, go_sem] at d0 d1 ⊢; simp [d0, d1]) rfl ⟨_, by rw [Herr.out], by rw [Herr.out]; exact World.ownsRow_nil _ _ _ _, ?_⟩
            exact (Hb.out.setCell (by simp) _).setCell (by simp) _
          · have hp1n : (p == 1) = false := by simp; omega
            have Hs := Lib.hid (show dec8 p (g + 1) k (s.drop k) = pre8 (ill8 P p) (dec8 p g (k + n) ((s.drop k).drop n)) by rw [HT.out, ← HP.out]; exact dec8_ill Hne.out Hst.out hp1')
            by_cases hp2 : p = 2
            · subst hp2
              clear hp1'
              have Hi := Lib.hid (show ill8 P 2 = [65533] by simp [ill8])
              go_wp2_with fail
              refine (rstep8H T c n false _ hTl2 Hst.out).mono ?_
              rintro e w1 ⟨rfl, rfl⟩
              go_wp2_with (at_builtin; go_must (refine wpList_app1 rfl (.tmp 41) (.tmp 42) 27 rfl Tryd.underlying27 hi hz0 hz1 hz2 rfl (by omega) wr u6 _ _ rfl ho _ rfl rfl (by omega) hsz ?_); intro v3 w3 ho3 hB3 _)
              go_roundw
              case rel => exact Hnx.out (ill8 P 2) _ _ (by rw [Hi.out]; simp; omega) Hs.out (Blk.below HF.out hB3 (by omega)) (Hb.out.trans (hB3.mono (by omega))) (by rw [Hi.out]; exact ho3)
              case measure => simp [intOf]; omega
            · have hp2n : (p == 2) = false := by simp; omega
              by_cases hp3 : p = 3
              · subst hp3
                clear hp1' hp2
                have HR := Lib.hid (Hnx.out (ill8 P 3) _ wr (by simp [ill8]) Hs.out HF.out Hb.out (by simpa [ill8] using ho))
                go_wp2_with fail
                refine (rstep8H T c n false _ hTl2 Hst.out).mono ?_
                rintro e w1 ⟨rfl, rfl⟩
                go_wp2
                go_roundw
                case rel => exact HR.out
                case measure => simp [intOf]; omega
              · obtain rfl : p = 4 := by omega
                clear hp1' hp3 hp2
                have Hi := Lib.hid (show ill8 P 4 = esc8 P by simp [ill8])
                have Hel := Lib.hid (esc8_len P)
                have HPl := Lib.hid (show P.length ≤ n by rw [← HP.out, List.length_take]; omega)
                go_wp2_with fail
                refine (rstep8H T c n false _ hTl2 Hst.out).mono ?_
                rintro e w1 ⟨rfl, rfl⟩
                go_wp2_with fail
                refine (rbytes8_any P wr (by omega)).mono ?_
                rintro e w3 ⟨v3, rfl, ho3, hB3⟩
                obtain ⟨A3, c3, rfl, _, hr3⟩ := val_of_own ho3
                have ho' := own_below ho hB3
                have HF3 := Lib.hid (Blk.below HF.out hB3 (by omega))
                have Hb3 := Lib.hid (Hb.out.trans (hB3.mono Hb.out.size))
                have hsz3 : w.heap.size + 1 ≤ w3.heap.size := by have := hB3.size; omega
                clear ho3 hB3
                go_wp2_with (at_builtin; go_must (refine wpList_appR rfl (.tmp 47) (.tmp 54) 27 rfl Tryd.underlying27 hi hz0 hz1 hz2 rfl (by omega) w3 u6 _ _ rfl ho' rfl hr3 (iv_one _) (by omega) hsz3 ?_); intro v5 w5 ho5 hB5 _)
                go_roundw
                case rel => exact Hnx.out (ill8 P 4) _ _ (by rw [Hi.out, Hel.out]; have := HPl.out; omega) Hs.out (Blk.below HF3.out hB5 (by omega)) (Hb3.out.trans (hB5.mono (by omega))) (by rw [Hi.out, Hel.out]; exact ho5)
                case measure => simp [intOf]; omega
      · have Hok := Lib.hid (show dec8R s p = (out, 0, 0) by
          rw [He.out, Hee.out, List.drop_of_length_le (by omega), dec8_nil]; simp [pre8, outI])
        have c0 := HF.out.cell 0
        have c1 := HF.out.cell 1
        have f0 := HF.out.frozen 0
        have f1 := HF.out.frozen 1
        have hF2 := (HF.out.set_ 0 (.int .i64 0)).set_ 1 (.int .i64 0)
        have d0 := hF2.cell 0
        have d1 := hF2.cell 1
        obtain ⟨A1, c2, rfl, _, hr1⟩ := val_of_own ho
        go_wp2
        refine bodyPost_ret (v := .tuple #[.slice A1 out.length c2, .agg #[.int .i64 0, .int .i64 0]]) (by simp [results, Tryd.results21, go_sem] at d0 d1 ⊢; simp [d0, d1]) rfl ⟨_, by rw [Hok.out], ?_, ?_⟩
        · rw [Hok.out]
          exact ownsRow_setCell_below (ownsRow_setCell_below ho (by simp) _) (by simp) _
        · exact (Hb.out.setCell (by simp) _).setCell (by simp) _

theorem rdecode8H (s : List UInt8) (o : List Int) (p e a : Int) (w : World) (hs : s.length ≤ 100000) (hR : dec8R s p = (o, e, a)) :
    Calls Tryd.prog 21 #[.string ⟨s.toArray⟩, .int .i64 p] w fun x w' => ∃ A' c', x = .returned (.tuple #[.slice A' o.length c', .agg #[.int .i64 e, .int .i64 a]]) ∧ Reads w' w'.heap.size 1 A' o.length (o.map iv) ∧ Below w.heap.size w w' :=
  (rdecode8_any s p w hs).mono fun x w' ⟨v, h1, h2, h3⟩ => by
    rw [hR] at h1 h2
    obtain ⟨A', c', rfl, _, hr⟩ := val_of_own h2
    exact ⟨A', c', h1, hr, h3⟩

set_option maxRecDepth 100000 in
set_option maxHeartbeats 1000000 in
theorem rvalid8_any (s : List UInt8) (w : World) (hs : s.length ≤ 100000) :
    Calls Tryd.prog 24 #[.string ⟨s.toArray⟩] w fun x w' => x = .returned (.bool (val8 s)) ∧ Below w.heap.size w w' := by
  obtain ⟨⟨o, e, a⟩, hR⟩ : ∃ x, dec8R s 1 = x := ⟨_, rfl⟩
  have HR := Lib.hid hR
  have Hv := Lib.hid (show (e == 0) = val8 s by rw [val8, hR]; by_cases h : e = 0 <;> simp [h])
  clear hR
  go_enter Tryd.func24, Tryd.ntmps24
  go_wp2_with fail
  refine (rdecode8H s o 1 e a w hs HR.out).mono ?_
  rintro x w2 ⟨A2, c2, rfl, hr2, hb2⟩
  have f5 := Blk.new w2 24 #[.int .i64 e, .int .i64 a]
  have k0 := f5.cell 0
  go_wp2
  go_ret
  exact ⟨ret_bool Hv.out, hb2.alloc hb2.size _⟩
end Go.Proofs.YthlhcengdgmgdaaDoor

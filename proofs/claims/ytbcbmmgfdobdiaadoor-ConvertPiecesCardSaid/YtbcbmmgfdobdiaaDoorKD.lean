/- convert.decode, Decode with the policies other than Fail. -/
import Derived.Test.YtbcbmmgfdobdiaaDoorKR
import Derived.Test.YtbcbmmgfdobdiaaDoorP9
namespace Go.Proofs.YtbcbmmgfdobdiaaDoor
open Go.RowKit

def DecKRel (w : World) (K : Cd) (s : List UInt8) (p : Int) (v i : Value) (wr : World) : Prop :=
  ∃ (k f : Nat) (out : List Int), k ≤ s.length ∧ i = .int .i64 (k : Int) ∧ (s.drop k).length ≤ f ∧ out.length ≤ 5 * k ∧ Hid (decK K p s.length 0 s = pre8 out (decK K p f k (s.drop k))) ∧
    wr.ownsRow (w.heap.size + 1) 3 1 v out.length (out.map iv) ∧ Hid (flt8 wr w.heap.size 0 0) ∧ Hid (Below w.heap.size w wr)
theorem decK_next {w w2 : World} {K : Cd} {s : List UInt8} {p : Int} {k f n : Nat} {out add : List Int} {v2 : Value} (hn1 : 1 ≤ n) (hk : k + n ≤ s.length) (hf : (s.drop k).length ≤ f + 1) (hol : out.length ≤ 5 * k) (hal : add.length ≤ 5 * n)
    (he : decK K p s.length 0 s = pre8 out (decK K p (f + 1) k (s.drop k))) (hs : decK K p (f + 1) k (s.drop k) = pre8 add (decK K p f (k + n) ((s.drop k).drop n)))
    (hF : flt8 w2 w.heap.size 0 0) (hb : Below w.heap.size w w2)
    (ho : w2.ownsRow (w.heap.size + 1) 3 1 v2 (out.length + add.length) (out.map iv ++ add.map iv)) : DecKRel w K s p v2 (.int .i64 ((k : Int) + (n : Int))) w2 := by
  refine ⟨k + n, f, out ++ add, hk, by congr 1, ?_, by simp; omega, ?_, by simpa using ho, hF, hb⟩
  · rw [List.length_drop] at hf ⊢; omega
  · show decK K p s.length 0 s = _
    rw [he, hs, pre8_pre8, List.drop_drop]

set_option maxRecDepth 100000 in
set_option maxHeartbeats 4000000 in
theorem kdecode_any (K : Cd) (v : Value) (s : List UInt8) (p : Int) (w : World) (hv : CdV w K v) (hp2 : 2 ≤ p) (hp4 : p ≤ 4) (hs : s.length ≤ 100000) (hdg : Dig w) :
    Calls Tryd.prog 66 #[.func (.method "unicodetext/convert.step") #[v] #[], .string ⟨s.toArray⟩, .int .i64 p] w fun e w' => ∃ r, e = .returned (.tuple #[r, .agg #[.int .i64 0, .int .i64 0]]) ∧
      w'.ownsRow w.heap.size 3 1 r (decF K p s).length ((decF K p s).map iv) ∧ Below w.heap.size w w' := by
  obtain ⟨i0, hi, hz0, hz1, hz2⟩ := info_parts Tryd.info3
  have Hd := Lib.hid hdg
  have Hv := Lib.hid hv
  have hg := hdg.lt
  have hp1n : (p == 1) = false := by simp; omega
  have hp1 : p ≠ 1 := by omega
  have Hde := Lib.hid (decF_eq (K := K) hp1 s)
  clear hdg hv
  go_enter Tryd.func66, Tryd.ntmps66
  go_wp2_with fail
  go_loopw [8, 9] (fun v i wr => DecKRel w K s p v i wr) (fun _ i _ => s.length - (intOf i).toNat)
  case atStart => exact ⟨0, s.length, [], Nat.zero_le _, rfl, by simp, by simp, by show _ = _; rw [pre8_nil]; rfl, World.ownsRow_nil _ _ _ _, Blk.new _ _ _, (Below.refl _ _).alloc (Nat.le_refl _) _⟩
  case round =>
    obtain ⟨k, f, out, hk, rfl, hf, hol, Hee, ho, HF, Hb⟩ := hrel
    have hsz : w.heap.size + 1 ≤ wr.heap.size := Blk.lt HF.out
    have Hvr := Lib.hid (Hv.out.stay Hb.out)
    have Hdr := Lib.hid (Hd.out.below Hb.out)
    by_cases hlt : k < s.length
    · have hne : s.drop k ≠ [] := by intro e; have := congrArg List.length e; rw [List.length_drop, List.length_nil] at this; omega
      have hbd := stepK_bd K _ hne
      have hx1 := ext_drop s k
      obtain ⟨⟨c, n, ok⟩, hst⟩ : ∃ x, stepK K (s.drop k) = x := ⟨_, rfl⟩
      rw [hst] at hbd
      simp only at hbd
      obtain ⟨hn1, hn4, hn3⟩ := hbd
      have hTl : (s.drop k).length = s.length - k := List.length_drop
      rw [hTl] at hn3
      obtain ⟨g, rfl⟩ : ∃ g, f = g + 1 := ⟨f - 1, by rw [hTl] at hf; omega⟩
      have hx2 := ext_part s k n
      have Hnx := Lib.hid (fun (add : List Int) (v2 : Value) (w2 : World) h1 h2 h3 h4 h5 => decK_next (w := w) (w2 := w2) (p := p) (add := add) (v2 := v2) hn1 (show k + n ≤ s.length by omega) hf hol h1 Hee.out h2 h3 h4 h5)
      have Hst := Lib.hid hst
      have Hne := Lib.hid hne
      have Hf := Lib.hid hf
      have hpl : ((s.drop k).take n).length ≤ 4 := by rw [List.length_take]; omega
      clear hst hne hf
      have hTl2 : (s.drop k).length ≤ 1000000 := by omega
      have HTl := Lib.hid hTl
      clear hTl
      generalize hT : s.drop k = T at hx1 hx2 Hst Hne hpl hTl2 HTl
      have HT := Lib.hid hT
      clear hT
      generalize hP : T.take n = P at hx2 hpl
      have HP := Lib.hid hP
      clear hP
      have hkn1 : (k : Int) + (n : Int) ≤ (s.length : Int) := by omega
      have hkn2 : k + n ≤ s.length := by omega
      cases ok with
      | true =>
        have Hs := Lib.hid (show decK K p (g + 1) k (s.drop k) = pre8 [(c : Int)] (decK K p g (k + n) ((s.drop k).drop n)) by rw [HT.out]; exact decK_ok Hne.out Hst.out)
        go_wp2_with (first | (refine wpList_callK rfl _ _ _ rfl rfl rfl Hvr.out hTl2 Hdr.out Hst.out ?_; intro w1 hb1) | (at_builtin; go_must (refine wpList_app1 rfl (.tmp 39) (.tmp 41) 22 rfl Tryd.underlying22 hi hz0 hz1 hz2 rfl (by omega) w1 u8 _ _ rfl (own_below ho hb1) _ rfl rfl (by omega) (Nat.le_trans hsz hb1.size) ?_); intro v3 w3 ho3 hB3 _))
        go_roundw
        case rel =>
          have hF1 := HF.out.stay hb1
          have hb2 := Hb.out.trans (hb1.mono Hb.out.size)
          exact Hnx.out [(c : Int)] _ _ (by simp; omega) Hs.out (Blk.below hF1 hB3 (by omega)) (hb2.trans (hB3.mono (by omega))) ho3
        case measure => simp [intOf]; omega
      | false =>
        have Hs := Lib.hid (show decK K p (g + 1) k (s.drop k) = pre8 (ill8 P p) (decK K p g (k + n) ((s.drop k).drop n)) by rw [HT.out, ← HP.out]; exact decK_ill Hne.out Hst.out hp1)
        clear hp1
        by_cases hp3 : p = 3
        · subst hp3
          go_wp2_with (refine wpList_callK rfl _ _ _ rfl rfl rfl Hvr.out hTl2 Hdr.out Hst.out ?_; intro w1 hb1)
          have HR := Lib.hid (Hnx.out (ill8 P 3) _ w1 (by simp [ill8]) Hs.out (HF.out.stay hb1) (Hb.out.trans (hb1.mono Hb.out.size)) (by simpa [ill8] using own_below ho hb1))
          go_roundw
          case rel => exact HR.out
          case measure => simp [intOf]; omega
        · by_cases hp2' : p = 2
          · subst hp2'
            clear hp3
            have Hi := Lib.hid (show ill8 P 2 = [65533] by simp [ill8])
            go_wp2_with (first | (refine wpList_callK rfl _ _ _ rfl rfl rfl Hvr.out hTl2 Hdr.out Hst.out ?_; intro w1 hb1) | (at_builtin; go_must (refine wpList_app1 rfl (.tmp 52) (.tmp 53) 22 rfl Tryd.underlying22 hi hz0 hz1 hz2 rfl (by omega) w1 u8 _ _ rfl (own_below ho hb1) _ rfl rfl (by omega) (Nat.le_trans hsz hb1.size) ?_); intro v3 w3 ho3 hB3 _))
            go_roundw
            case rel =>
              have hF1 := HF.out.stay hb1
              have hb2 := Hb.out.trans (hb1.mono Hb.out.size)
              exact Hnx.out (ill8 P 2) _ _ (by rw [Hi.out]; simp; omega) Hs.out (Blk.below hF1 hB3 (by omega)) (hb2.trans (hB3.mono (by omega))) (by rw [Hi.out]; exact ho3)
            case measure => simp [intOf]; omega
          · obtain rfl : p = 4 := by omega
            clear hp3 hp2'
            have Hi := Lib.hid (show ill8 P 4 = esc8 P by simp [ill8])
            have Hel := Lib.hid (esc8_len P)
            have HPl := Lib.hid (show P.length ≤ n by rw [← HP.out, List.length_take]; omega)
            go_wp2_with (refine wpList_callK rfl _ _ _ rfl rfl rfl Hvr.out hTl2 Hdr.out Hst.out ?_; intro w1 hb1)
            have hF1 := HF.out.stay hb1
            have hb2 := Hb.out.trans (hb1.mono Hb.out.size)
            have ho1 := own_below ho hb1
            have HF1 := Lib.hid hF1
            have Hb1 := Lib.hid hb2
            have Hd1 := Lib.hid (Hd.out.below hb2)
            have hsz1 : w.heap.size + 1 ≤ w1.heap.size := Nat.le_trans hsz hb1.size
            clear hF1 hb2 hb1 ho
            simp only [hx2]
            go_loopw [8, 59] (fun v i wq => ∃ j : Nat, j ≤ P.length ∧ i = .int .i64 j ∧ wq.ownsRow (w.heap.size + 1) 3 1 v (out.length + 4 * j) ((out ++ esc8 (P.take j)).map iv) ∧ Below (w.heap.size + 1) w1 wq) (fun _ i _ => P.length - (intOf i).toNat)
            case atStart => exact ⟨0, Nat.zero_le _, rfl, by simpa [esc8] using ho1, Below.refl _ _⟩
            case round =>
              obtain ⟨j, hj, rfl, ho, hb⟩ := hrel
              by_cases hjt : j < P.length
              · obtain ⟨x, hx, hx2, hx256⟩ := byte8_at (s := P) (k := j) hjt
                have Hs2 := Lib.hid (esc8_snoc P j hjt)
                have Hhx := Lib.hid (hex_byte ⟨x, hx256⟩)
                have He1 := Lib.hid (show (esc1 P[j]).map iv = [.int .i64 92, .int .i64 120, .int .i64 ((dg (x / 16)).toNat : Int), .int .i64 ((dg (x % 16)).toNat : Int)] by rw [esc1, hx2]; rfl)
                have hk3 : (j : Int) < (P.length : Int) := by omega
                clear hx2
                go_wp2_with fail
                refine (hex_any (x : Int) _ (Hd1.out.belowB hb (by omega))).mono ?_
                rintro e w2 ⟨rfl, hb1⟩
                rw [Hhx.out]
                simp only at He1 ⊢
                have ho1 := own_below ho hb1
                have hb2 := hb.trans (hb1.mono (Nat.le_trans hsz1 hb.size))
                have hbz : w.heap.size + 1 ≤ w2.heap.size := by have := hb2.size; omega
                clear hb1 ho hb
                have ha := (dg (x / 16)).toNat_lt
                have hbb := (dg (x % 16)).toNat_lt
                generalize dg (x / 16) = a at He1 ha ⊢
                generalize dg (x % 16) = b at He1 hbb ⊢
                have qa : IntKind.i64.wrap (a.toNat : Int) = (a.toNat : Int) := IntWalk.i64_in _ (by omega)
                have qb : IntKind.i64.wrap (b.toNat : Int) = (b.toNat : Int) := IntWalk.i64_in _ (by omega)
                have Qa := Lib.hid qa
                have Qb := Lib.hid qb
                clear qa qb
                go_wp2
                go_region_held3 (fun _ => True) (trivial) ((refine step_appN (by rfl) (.tmp 67) (.tmp 74) 22 (by rfl) Tryd.underlying22 hi hz0 hz1 hz2 rfl (by omega) u8 (out.length + 4 * j) ((out ++ esc8 (P.take j)).map iv) (by rfl) ((ho1.alloc _).drew) [.int .i64 92, .int .i64 120, .int .i64 (IntKind.i64.wrap (a.toNat : Int)), .int .i64 (IntKind.i64.wrap (b.toNat : Int))] 4 (by omega) rfl ⟨w2.heap.size, 0, none⟩ (by rfl) (World.news_of_block (cs := #[.int .i64 92, .int .i64 120, .int .i64 (IntKind.i64.wrap (a.toNat : Int)), .int .i64 (IntKind.i64.wrap (b.toNat : Int))]) (t := 3) (fr := (0, 0)) (heap_alloc_new w2 _)) (by simp [Value.oneCell']) (by omega) (by simp; omega) ?_; intro v3 w3 ho3 hB3 _))
                all_goals
                  have HB := Lib.hid (hb2.trans (((((Below.refl _ _).alloc hbz _).drew).trans hB3)))
                  clear hB3
                  rw [Qa.out, Qb.out, ← He1.out, ← List.map_append, List.append_assoc, ← Hs2.out] at ho3
                  go_wp2
                  go_roundw
                  case rel =>
                    exact ⟨j + 1, by omega, by go_num, by rw [show out.length + 4 * (j + 1) = out.length + 4 * j + 4 by omega]; exact ho3, HB.out⟩
                  case measure => simp [intOf]; omega
              · have Ht := Lib.hid (show P.take j = P from List.take_of_length_le (by omega))
                obtain rfl : j = P.length := by omega
                rw [Ht.out] at ho
                have hjn : ¬ ((P.length : Nat) : Int) < (P.length : Int) := by omega
                have HR := Lib.hid (Hnx.out (ill8 P 4) _ _ (by rw [Hi.out, Hel.out]; have := HPl.out; omega) Hs.out (Blk.below HF1.out hb (by omega)) (Hb1.out.trans (hb.mono (by omega))) (by rw [Hi.out, Hel.out, ← List.map_append]; exact ho))
                clear ho hb
                go_wp2
                go_roundw
                case rel => exact HR.out
                case measure => simp [intOf]; omega
    · have Hok := Lib.hid (show decF K p s = out by
        have h1 := Hde.out
        rw [Hee.out, List.drop_of_length_le (by omega), decK_nil] at h1
        simp [pre8] at h1; exact h1.symm)
      have c0 := HF.out.cell 0
      have c1 := HF.out.cell 1
      have f0 := HF.out.frozen 0
      have f1 := HF.out.frozen 1
      have hF2 := (HF.out.set_ 0 (.int .i64 0)).set_ 1 (.int .i64 0)
      have d0 := hF2.cell 0
      have d1 := hF2.cell 1
      obtain ⟨A1, c2, rfl, _, hr1⟩ := val_of_own ho
      go_wp2
      rw [Hok.out]
      refine bodyPost_ret (v := .tuple #[.slice A1 out.length c2, .agg #[.int .i64 0, .int .i64 0]]) (by simp [results, Tryd.results66, go_sem] at d0 d1 ⊢; simp [d0, d1]) rfl ⟨_, rfl, ?_, ?_⟩
      · exact own_base (ownsRow_setCell_below (ownsRow_setCell_below ho (by simp) (.int .i64 0)) (by simp) (.int .i64 0)) (Nat.le_succ _)
      · exact (Hb.out.setCell (by simp) _).setCell (by simp) _
end Go.Proofs.YtbcbmmgfdobdiaaDoor

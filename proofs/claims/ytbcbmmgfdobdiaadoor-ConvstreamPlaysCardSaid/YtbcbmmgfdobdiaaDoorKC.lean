/- KD KE KG KH, merged. -/
import Derived.Test.YtbcbmmgfdobdiaaDoorKR
import Derived.Test.YtbcbmmgfdobdiaaDoorP9
/- convert.decode, Decode with the policies other than Fail. -/
namespace Go.Proofs.YtbcbmmgfdobdiaaDoor
open Go.RowKit

def DecKRel (w : World) (K : Cd) (s : List UInt8) (p : Int) (v i : Value) (wr : World) : Prop :=
  ∃ (k f : Nat) (out : List Int), k ≤ s.length ∧ i = .int .i64 (k : Int) ∧ (s.drop k).length ≤ f ∧ out.length ≤ 5 * k ∧ Hid (decK K p s.length 0 s = pre8 out (decK K p f k (s.drop k))) ∧
    wr.ownsRow (w.heap.size + 1) 3 1 v out.length (out.map iv) ∧ Hid (flt8 wr w.heap.size 0 0) ∧ Hid (Below w.heap.size w wr)
theorem decK_next {w w2 : World} {K : Cd} {s : List UInt8} {p : Int} {k f n : Nat} {out add : List Int} {v2 : Value} (hn1 : 1 ≤ n) (hk : k + n ≤ s.length) (hf : (s.drop k).length ≤ f + 1) (hol : out.length ≤ 5 * k) (hal : add.length ≤ 5 * n)
    (he : decK K p s.length 0 s = pre8 out (decK K p (f + 1) k (s.drop k))) (hs : decK K p (f + 1) k (s.drop k) = pre8 add (decK K p f (k + n) ((s.drop k).drop n)))
    (hF : flt8 w2 w.heap.size 0 0) (hb : Below w.heap.size w w2)
    (ho : w2.ownsRow (w.heap.size + 1) 3 1 v2 (out.length + add.length) (out.map iv ++ add.map iv)) : DecKRel w K s p v2 (.int .i64 ((k : Int) + (n : Int))) w2 := by
  refine ⟨k + n, f, out ++ add, hk, by congr 1, ?_, by simp; omega, ?_, by simpa using ho, hF, hb⟩
  · rw [List.length_drop] at hf ⊢; omega
  · show decK K p s.length 0 s = _
    rw [he, hs, pre8_pre8, List.drop_drop]

set_option maxRecDepth 100000 in
set_option maxHeartbeats 4000000 in
theorem kdecode_any (K : Cd) (v : Value) (s : List UInt8) (p : Int) (w : World) (hv : CdV w K v) (hp2 : 2 ≤ p) (hp4 : p ≤ 4) (hs : s.length ≤ 100000) (hdg : Dig w) :
    Calls Tryd.prog 66 #[.func (.method "unicodetext/convert.step") #[v] #[], .string ⟨s.toArray⟩, .int .i64 p] w fun e w' => ∃ r, e = .returned (.tuple #[r, .agg #[.int .i64 0, .int .i64 0]]) ∧
      w'.ownsRow w.heap.size 3 1 r (decF K p s).length ((decF K p s).map iv) ∧ Below w.heap.size w w' := by
  obtain ⟨i0, hi, hz0, hz1, hz2⟩ := info_parts Tryd.info3
  have Hd := Lib.hid hdg
  have Hv := Lib.hid hv
  have hg := hdg.lt
  have hp1n : (p == 1) = false := by simp; omega
  have hp1 : p ≠ 1 := by omega
  have Hde := Lib.hid (decF_eq (K := K) hp1 s)
  clear hdg hv
  go_enter Tryd.func66, Tryd.ntmps66
  go_wp2_with fail
  go_loopw [8, 9] (fun v i wr => DecKRel w K s p v i wr) (fun _ i _ => s.length - (intOf i).toNat)
  case atStart => exact ⟨0, s.length, [], Nat.zero_le _, rfl, by simp, by simp, by show _ = _; rw [pre8_nil]; rfl, World.ownsRow_nil _ _ _ _, Blk.new _ _ _, (Below.refl _ _).alloc (Nat.le_refl _) _⟩
  case round =>
    obtain ⟨k, f, out, hk, rfl, hf, hol, Hee, ho, HF, Hb⟩ := hrel
    have hsz : w.heap.size + 1 ≤ wr.heap.size := Blk.lt HF.out
    have Hvr := Lib.hid (Hv.out.stay Hb.out)
    have Hdr := Lib.hid (Hd.out.below Hb.out)
    by_cases hlt : k < s.length
    · have hne : s.drop k ≠ [] := by intro e; have := congrArg List.length e; rw [List.length_drop, List.length_nil] at this; omega
      have hbd := stepK_bd K _ hne
      have hx1 := ext_drop s k
      obtain ⟨⟨c, n, ok⟩, hst⟩ : ∃ x, stepK K (s.drop k) = x := ⟨_, rfl⟩
      rw [hst] at hbd
      simp only at hbd
      obtain ⟨hn1, hn4, hn3⟩ := hbd
      have hTl : (s.drop k).length = s.length - k := List.length_drop
      rw [hTl] at hn3
      obtain ⟨g, rfl⟩ : ∃ g, f = g + 1 := ⟨f - 1, by rw [hTl] at hf; omega⟩
      have hx2 := ext_part s k n
      have Hnx := Lib.hid (fun (add : List Int) (v2 : Value) (w2 : World) h1 h2 h3 h4 h5 => decK_next (w := w) (w2 := w2) (p := p) (add := add) (v2 := v2) hn1 (show k + n ≤ s.length by omega) hf hol h1 Hee.out h2 h3 h4 h5)
      have Hst := Lib.hid hst
      have Hne := Lib.hid hne
      have Hf := Lib.hid hf
      have hpl : ((s.drop k).take n).length ≤ 4 := by rw [List.length_take]; omega
      clear hst hne hf
      have hTl2 : (s.drop k).length ≤ 1000000 := by omega
      have HTl := Lib.hid hTl
      clear hTl
      generalize hT : s.drop k = T at hx1 hx2 Hst Hne hpl hTl2 HTl
      have HT := Lib.hid hT
      clear hT
      generalize hP : T.take n = P at hx2 hpl
      have HP := Lib.hid hP
      clear hP
      have hkn1 : (k : Int) + (n : Int) ≤ (s.length : Int) := by omega
      have hkn2 : k + n ≤ s.length := by omega
      cases ok with
      | true =>
        have Hs := Lib.hid (show decK K p (g + 1) k (s.drop k) = pre8 [(c : Int)] (decK K p g (k + n) ((s.drop k).drop n)) by rw [HT.out]; exact decK_ok Hne.out Hst.out)
        go_wp2_with (first | (refine wpList_callK rfl _ _ _ rfl rfl rfl Hvr.out hTl2 Hdr.out Hst.out ?_; intro w1 hb1) | (at_builtin; go_must (refine wpList_app1 rfl (.tmp 39) (.tmp 41) 22 rfl Tryd.underlying22 hi hz0 hz1 hz2 rfl (by omega) w1 u8 _ _ rfl (own_below ho hb1) _ rfl rfl (by omega) (Nat.le_trans hsz hb1.size) ?_); intro v3 w3 ho3 hB3 _))
        go_roundw
        case rel =>
          have hF1 := HF.out.stay hb1
          have hb2 := Hb.out.trans (hb1.mono Hb.out.size)
          exact Hnx.out [(c : Int)] _ _ (by simp; omega) Hs.out (Blk.below hF1 hB3 (by omega)) (hb2.trans (hB3.mono (by omega))) ho3
        case measure => simp [intOf]; omega
      | false =>
        have Hs := Lib.hid (show decK K p (g + 1) k (s.drop k) = pre8 (ill8 P p) (decK K p g (k + n) ((s.drop k).drop n)) by rw [HT.out, ← HP.out]; exact decK_ill Hne.out Hst.out hp1)
        clear hp1
        by_cases hp3 : p = 3
        · subst hp3
          go_wp2_with (refine wpList_callK rfl _ _ _ rfl rfl rfl Hvr.out hTl2 Hdr.out Hst.out ?_; intro w1 hb1)
          have HR := Lib.hid (Hnx.out (ill8 P 3) _ w1 (by simp [ill8]) Hs.out (HF.out.stay hb1) (Hb.out.trans (hb1.mono Hb.out.size)) (by simpa [ill8] using own_below ho hb1))
          go_roundw
          case rel => exact HR.out
          case measure => simp [intOf]; omega
        · by_cases hp2' : p = 2
          · subst hp2'
            clear hp3
            have Hi := Lib.hid (show ill8 P 2 = [65533] by simp [ill8])
            go_wp2_with (first | (refine wpList_callK rfl _ _ _ rfl rfl rfl Hvr.out hTl2 Hdr.out Hst.out ?_; intro w1 hb1) | (at_builtin; go_must (refine wpList_app1 rfl (.tmp 52) (.tmp 53) 22 rfl Tryd.underlying22 hi hz0 hz1 hz2 rfl (by omega) w1 u8 _ _ rfl (own_below ho hb1) _ rfl rfl (by omega) (Nat.le_trans hsz hb1.size) ?_); intro v3 w3 ho3 hB3 _))
            go_roundw
            case rel =>
              have hF1 := HF.out.stay hb1
              have hb2 := Hb.out.trans (hb1.mono Hb.out.size)
              exact Hnx.out (ill8 P 2) _ _ (by rw [Hi.out]; simp; omega) Hs.out (Blk.below hF1 hB3 (by omega)) (hb2.trans (hB3.mono (by omega))) (by rw [Hi.out]; exact ho3)
            case measure => simp [intOf]; omega
          · obtain rfl : p = 4 := by omega
            clear hp3 hp2'
            have Hi := Lib.hid (show ill8 P 4 = esc8 P by simp [ill8])
            have Hel := Lib.hid (esc8_len P)
            have HPl := Lib.hid (show P.length ≤ n by rw [← HP.out, List.length_take]; omega)
            go_wp2_with (refine wpList_callK rfl _ _ _ rfl rfl rfl Hvr.out hTl2 Hdr.out Hst.out ?_; intro w1 hb1)
            have hF1 := HF.out.stay hb1
            have hb2 := Hb.out.trans (hb1.mono Hb.out.size)
            have ho1 := own_below ho hb1
            have HF1 := Lib.hid hF1
            have Hb1 := Lib.hid hb2
            have Hd1 := Lib.hid (Hd.out.below hb2)
            have hsz1 : w.heap.size + 1 ≤ w1.heap.size := Nat.le_trans hsz hb1.size
            clear hF1 hb2 hb1 ho
            simp only [hx2]
            go_loopw [8, 59] (fun v i wq => ∃ j : Nat, j ≤ P.length ∧ i = .int .i64 j ∧ wq.ownsRow (w.heap.size + 1) 3 1 v (out.length + 4 * j) ((out ++ esc8 (P.take j)).map iv) ∧ Below (w.heap.size + 1) w1 wq) (fun _ i _ => P.length - (intOf i).toNat)
            case atStart => exact ⟨0, Nat.zero_le _, rfl, by simpa [esc8] using ho1, Below.refl _ _⟩
            case round =>
              obtain ⟨j, hj, rfl, ho, hb⟩ := hrel
              by_cases hjt : j < P.length
              · obtain ⟨x, hx, hx2, hx256⟩ := byte8_at (s := P) (k := j) hjt
                have Hs2 := Lib.hid (esc8_snoc P j hjt)
                have Hhx := Lib.hid (hex_byte ⟨x, hx256⟩)
                have He1 := Lib.hid (show (esc1 P[j]).map iv = [.int .i64 92, .int .i64 120, .int .i64 ((dg (x / 16)).toNat : Int), .int .i64 ((dg (x % 16)).toNat : Int)] by rw [esc1, hx2]; rfl)
                have hk3 : (j : Int) < (P.length : Int) := by omega
                clear hx2
                go_wp2_with fail
                refine (hex_any (x : Int) _ (Hd1.out.belowB hb (by omega))).mono ?_
                rintro e w2 ⟨rfl, hb1⟩
                rw [Hhx.out]
                simp only at He1 ⊢
                have ho1 := own_below ho hb1
                have hb2 := hb.trans (hb1.mono (Nat.le_trans hsz1 hb.size))
                have hbz : w.heap.size + 1 ≤ w2.heap.size := by have := hb2.size; omega
                clear hb1 ho hb
                have ha := (dg (x / 16)).toNat_lt
                have hbb := (dg (x % 16)).toNat_lt
                generalize dg (x / 16) = a at He1 ha ⊢
                generalize dg (x % 16) = b at He1 hbb ⊢
                have qa : IntKind.i64.wrap (a.toNat : Int) = (a.toNat : Int) := IntWalk.i64_in _ (by omega)
                have qb : IntKind.i64.wrap (b.toNat : Int) = (b.toNat : Int) := IntWalk.i64_in _ (by omega)
                have Qa := Lib.hid qa
                have Qb := Lib.hid qb
                clear qa qb
                go_wp2
                go_region_held3 (fun _ => True) (trivial) ((refine step_appN (by rfl) (.tmp 67) (.tmp 74) 22 (by rfl) Tryd.underlying22 hi hz0 hz1 hz2 rfl (by omega) u8 (out.length + 4 * j) ((out ++ esc8 (P.take j)).map iv) (by rfl) ((ho1.alloc _).drew) [.int .i64 92, .int .i64 120, .int .i64 (IntKind.i64.wrap (a.toNat : Int)), .int .i64 (IntKind.i64.wrap (b.toNat : Int))] 4 (by omega) rfl ⟨w2.heap.size, 0, none⟩ (by rfl) (World.news_of_block (cs := #[.int .i64 92, .int .i64 120, .int .i64 (IntKind.i64.wrap (a.toNat : Int)), .int .i64 (IntKind.i64.wrap (b.toNat : Int))]) (t := 3) (fr := (0, 0)) (heap_alloc_new w2 _)) (by simp [Value.oneCell']) (by omega) (by simp; omega) ?_; intro v3 w3 ho3 hB3 _))
                all_goals
                  have HB := Lib.hid (hb2.trans (((((Below.refl _ _).alloc hbz _).drew).trans hB3)))
                  clear hB3
                  rw [Qa.out, Qb.out, ← He1.out, ← List.map_append, List.append_assoc, ← Hs2.out] at ho3
                  go_wp2
                  go_roundw
                  case rel =>
                    exact ⟨j + 1, by omega, by go_num, by rw [show out.length + 4 * (j + 1) = out.length + 4 * j + 4 by omega]; exact ho3, HB.out⟩
                  case measure => simp [intOf]; omega
              · have Ht := Lib.hid (show P.take j = P from List.take_of_length_le (by omega))
                obtain rfl : j = P.length := by omega
                rw [Ht.out] at ho
                have hjn : ¬ ((P.length : Nat) : Int) < (P.length : Int) := by omega
                have HR := Lib.hid (Hnx.out (ill8 P 4) _ _ (by rw [Hi.out, Hel.out]; have := HPl.out; omega) Hs.out (Blk.below HF1.out hb (by omega)) (Hb1.out.trans (hb.mono (by omega))) (by rw [Hi.out, Hel.out, ← List.map_append]; exact ho))
                clear ho hb
                go_wp2
                go_roundw
                case rel => exact HR.out
                case measure => simp [intOf]; omega
    · have Hok := Lib.hid (show decF K p s = out by
        have h1 := Hde.out
        rw [Hee.out, List.drop_of_length_le (by omega), decK_nil] at h1
        simp [pre8] at h1; exact h1.symm)
      have c0 := HF.out.cell 0
      have c1 := HF.out.cell 1
      have f0 := HF.out.frozen 0
      have f1 := HF.out.frozen 1
      have hF2 := (HF.out.set_ 0 (.int .i64 0)).set_ 1 (.int .i64 0)
      have d0 := hF2.cell 0
      have d1 := hF2.cell 1
      obtain ⟨A1, c2, rfl, _, hr1⟩ := val_of_own ho
      go_wp2
      rw [Hok.out]
      refine bodyPost_ret (v := .tuple #[.slice A1 out.length c2, .agg #[.int .i64 0, .int .i64 0]]) (by simp [results, Tryd.results66, go_sem] at d0 d1 ⊢; simp [d0, d1]) rfl ⟨_, rfl, ?_, ?_⟩
      · exact own_base (ownsRow_setCell_below (ownsRow_setCell_below ho (by simp) (.int .i64 0)) (by simp) (.int .i64 0)) (Nat.le_succ _)
      · exact (Hb.out.setCell (by simp) _).setCell (by simp) _
end Go.Proofs.YtbcbmmgfdobdiaaDoor
/- convert.Decode, instead, Encode, Convert with the policies other than Fail. -/
namespace Go.Proofs.YtbcbmmgfdobdiaaDoor
open Go.RowKit

set_option maxRecDepth 100000 in
set_option maxHeartbeats 2000000 in
theorem known7_any (p : Int) (w : World) (h1 : 1 ≤ p) (h2 : p ≤ 4) : Calls Tryd.prog 65 #[.int .i64 p] w fun e w' => e = .returned (.bool true) ∧ w' = w := by
  go_enter Tryd.func65, Tryd.ntmps65
  go_wp2
  go_ret
  exact ⟨rfl, rfl⟩
theorem nilV {W : World} {K : Cd} {v : Value} (h : CdV W K v) {ρ : Operand → Value} {o : Oper} {x : Operand} (ho : o.op = .nilCheck x) (hx : ρ x = v) (w : World) : (execOp ρ o).run Tryd.prog w = .ok (.value v) w := by
  cases K with
  | u8 => obtain rfl : v = .iface 103 (.agg #[]) := h; simp only [execOp, ho, hx]; kernel_rfl
  | u16 big => obtain rfl : v = .iface 105 (.agg #[.bool big]) := h; simp only [execOp, ho, hx]; kernel_rfl
  | one codes => obtain ⟨A, cap, m, n, rfl, hr, hm⟩ := h; simp only [execOp, ho, hx]; kernel_rfl
theorem wpList_nilV {ops : Array Oper} {rest : List Oper} {o : Oper} {a : Act} {Q : Exit → Act → World → Prop} (hgd : o.guard = none) (x : Operand) (ho : o.op = .nilCheck x) {w W : World} {K : Cd} {v : Value} (hx : a.eval x = v) (hv : CdV W K v)
    (h : wpList Tryd.prog ops Q rest (a.put o.dst v) w) : wpList Tryd.prog ops Q (o :: rest) a w := by
  refine wpList_plain hgd fun K' hK' => ?_
  unfold Oper.wp
  refine upon_to (nilV hv ho hx w) ?_
  exact hK' _ _ h

set_option maxRecDepth 100000 in
set_option maxHeartbeats 4000000 in
theorem cdecode_good (kind : Int) (A : Option Addr) (n c : Nat) (codes : List Int) (s : List UInt8) (p : Int) (w : World) (h : Reads w w.heap.size 1 A n (codes.map iv)) (hC : CkE kind codes 0) (hp2 : 2 ≤ p) (hp4 : p ≤ 4) (hs : s.length ≤ 100000) (hdg : Dig w) :
    Calls Tryd.prog 46 #[.agg #[.int .i64 kind, .slice A n c], .string ⟨s.toArray⟩, .int .i64 p] w fun e w' => ∃ r, e = .returned (.tuple #[r, .agg #[.int .i64 0, .int .i64 0]]) ∧
      w'.ownsRow w.heap.size 3 1 r (decF (cdOf kind codes) p s).length ((decF (cdOf kind codes) p s).map iv) ∧ Below w.heap.size w w' := by
  have hL : Below w.heap.size w ((w.alloc (.cells #[.int .i64 kind, .slice A n c] 26)).alloc (.cells #[.int .i64 0, .int .i64 0] 37)) := ((Below.refl _ _).alloc (Nat.le_refl _) _).alloc (by simp) _
  have p1 : Blk ((w.alloc (.cells #[.int .i64 kind, .slice A n c] 26)).alloc (.cells #[.int .i64 0, .int .i64 0] 37)) w.heap.size 26 #[.int .i64 kind, .slice A n c] := (Blk.new w _ _).alloc _
  have p2 : Blk ((w.alloc (.cells #[.int .i64 kind, .slice A n c] 26)).alloc (.cells #[.int .i64 0, .int .i64 0] 37)) (w.heap.size + 1) 37 #[.int .i64 0, .int .i64 0] := by
    have := Blk.new (w.alloc (.cells #[.int .i64 kind, .slice A n c] 26)) 37 #[.int .i64 0, .int .i64 0]
    simpa using this
  have HL := Lib.hid hL
  have HR := Lib.hid (h.stay hL)
  have HC := Lib.hid hC
  have g0 := p1.cell 0
  have g1 := p1.cell 1
  have HD := Lib.hid (hdg.below hL)
  have P2 := Lib.hid p2
  clear hL h hC hdg p1 p2
  go_enter Tryd.func46, Tryd.ntmps46
  go_wp2_with fail
  clear g0 g1
  obtain ⟨W, hW⟩ : ∃ W, W = (w.alloc (.cells #[.int .i64 kind, .slice A n c] 26)).alloc (.cells #[.int .i64 0, .int .i64 0] 37) := ⟨_, rfl⟩
  rw [← hW] at HL HR HD P2 ⊢
  clear hW
  refine (open_good kind A n c codes W HR.out HC.out).mono ?_
  rintro x w1 ⟨⟨v, rfl, hv⟩, hb1⟩
  have Hv := Lib.hid hv
  have HD1 := Lib.hid (HD.out.below hb1)
  have HL1 := Lib.hid (HL.out.trans (hb1.mono HL.out.size))
  have Q2 := Lib.hid (P2.out.stay hb1)
  clear hv hb1 HD HL P2
  go_wp2_with fail
  refine (known7_any p w1 (by omega) hp4).mono ?_
  rintro e w2 ⟨rfl, rfl⟩
  go_wp2_with (first | (refine wpList_nilV rfl _ rfl rfl Hv.out ?_) | fail)
  refine (kdecode_any (cdOf kind codes) v s p w2 Hv.out hp2 hp4 hs HD1.out).mono ?_
  rintro e w3 ⟨r, rfl, ho3, hb3⟩
  have hF := Q2.out.stay hb3
  have hlt := hF.lt
  have hlt2 := Q2.out.lt
  obtain ⟨A3, c3, rfl, _, _⟩ := val_of_own ho3
  have z0 := hF.cell 0
  have z1 := hF.cell 1
  have f0 := hF.frozen 0
  have f1 := hF.frozen 1
  have hF2 := (hF.set_ 0 (.int .i64 0)).set_ 1 (.int .i64 0)
  have b3 := HL1.out.trans (hb3.mono HL1.out.size)
  have bF := (b3.setCell (p := ⟨w.heap.size + 1, 0, none⟩) (by simp) (.int .i64 0)).setCell (p := ⟨w.heap.size + 1, 1, none⟩) (by simp) (.int .i64 0)
  have oF := own_base (ownsRow_setCell_below (ownsRow_setCell_below (a := ⟨w.heap.size + 1, 0, none⟩) ho3 (by simpa using hlt2) (.int .i64 0)) (a := ⟨w.heap.size + 1, 1, none⟩) (by simpa using hlt2) (.int .i64 0)) (base' := w.heap.size) (by omega)
  have D := Lib.hid (And.intro (hF2.cell 0) (hF2.cell 1))
  have BF := Lib.hid bF
  have OF := Lib.hid oF
  clear bF hF2 oF b3 hF ho3 hb3
  go_wp2
  obtain ⟨d0, d1⟩ := D.out
  have bF := BF.out
  have oF := OF.out
  clear D BF OF z0 z1 f0 f1
  generalize World.setCell (World.setCell _ ⟨w.heap.size + 1, 0, none⟩ (.int .i64 0)) ⟨w.heap.size + 1, 1, none⟩ (.int .i64 0) = V at d0 d1 bF oF ⊢
  exact bodyPost_ret (v := .tuple #[.slice A3 (decF (cdOf kind codes) p s).length c3, .agg #[.int .i64 0, .int .i64 0]]) (by simp [results, Tryd.results46, go_sem] at d0 d1 ⊢; simp [d0, d1]) rfl ⟨_, rfl, oF, bF⟩

theorem lostK_len (K : Cd) (c p : Int) : (lostK K c p).length ≤ 64 := by
  have h1 : ∀ x : Int, ((formK K x).getD []).length ≤ 4 := by
    intro x
    cases h : formK K x with
    | none => simp
    | some y => exact (formK_ne h).2
  have h2 : ∀ l : List UInt8, (l.flatMap fun (b : UInt8) => (formK K (b.toNat : Int)).getD []).length ≤ 4 * l.length := by
    intro l
    induction l with
    | nil => simp
    | cons b l ih => rw [List.flatMap_cons, List.length_append, List.length_cons]; have := h1 (b.toNat : Int); omega
  unfold lostK
  split
  · have := h2 ([92, 117, 123] ++ hexB c ++ [125])
    have hl := hexB_len c
    unfold escK
    simp only [List.length_append, List.length_cons, List.length_nil] at this ⊢
    omega
  · split
    · simp
    · have := h1 63
      cases h : formK K 65533 with
      | none => simp only [Option.getD_none]; omega
      | some y => simp only [Option.getD_some]; have := (formK_ne h).2; omega
theorem lostK_2 (K : Cd) (c : Int) : lostK K c 2 = (formK K 65533).getD ((formK K 63).getD []) := by simp [lostK]
theorem lostK_3 (K : Cd) (c : Int) : lostK K c 3 = [] := by simp [lostK]
theorem lostK_4 (K : Cd) (c : Int) : lostK K c 4 = escK K c := by simp [lostK]

set_option maxRecDepth 100000 in
set_option maxHeartbeats 4000000 in
theorem kinstead_any {w : World} {K : Cd} {v : Value} (h : CdV w K v) (hK : GoodK K) (c p : Int) (hp2 : 2 ≤ p) (hp4 : p ≤ 4) (hdg : Dig w) :
    Calls Tryd.prog 67 #[v, .int .i64 c, .int .i64 p] w fun x w' => x = .returned (.string ⟨(lostK K c p).toArray⟩) ∧ Below w.heap.size w w' := by
  have Hv := Lib.hid h
  have HD := Lib.hid hdg
  have HK := Lib.hid hK
  clear h hdg hK
  by_cases e3 : p = 3
  · subst e3
    rw [lostK_3]
    go_enter Tryd.func67, Tryd.ntmps67
    go_wp2
    go_ret
    exact ⟨rfl, Below.refl _ _⟩
  by_cases e2 : p = 2
  · subst e2
    clear e3
    rw [lostK_2]
    go_enter Tryd.func67, Tryd.ntmps67
    go_wp2_with fail
    refine (form_any Hv.out HK.out 65533 (by omega) HD.out).mono ?_
    rintro r w1 ⟨rfl, hb1⟩
    have Hv1 := Lib.hid (Hv.out.stay hb1)
    have HD1 := Lib.hid (HD.out.below hb1)
    have B1 := Lib.hid hb1
    clear hb1
    cases hf : formK K 65533 with
    | some x =>
      unfold formV
      simp only [Option.getD_some, Option.isSome_some]
      have Hf := Lib.hid hf
      clear hf
      go_wp2
      go_ret
      exact ⟨by rw [Hf.out]; rfl, B1.out⟩
    | none =>
      unfold formV
      simp only [Option.getD_none, Option.isSome_none]
      have Hf := Lib.hid hf
      clear hf
      go_wp2_with fail
      refine (form_any Hv1.out HK.out 63 (by omega) HD1.out).mono ?_
      rintro r w2 ⟨rfl, hb2⟩
      unfold formV
      obtain ⟨X, hX⟩ : ∃ X, X = (formK K 63).getD [] := ⟨_, rfl⟩
      obtain ⟨Y, hY⟩ : ∃ Y, Y = (formK K 63).isSome := ⟨_, rfl⟩
      rw [← hX, ← hY]
      have HX := Lib.hid hX
      clear hX hY
      go_wp2
      go_ret
      exact ⟨by rw [Hf.out, Option.getD_none, ← HX.out]; rfl, B1.out.trans (hb2.mono B1.out.size)⟩
  obtain rfl : p = 4 := by omega
  clear e2 e3
  rw [lostK_4]
  have hhl := hexB_len c
  have bn := Lib.hid (below_new w (.cells #[.pointer none, .slice none 0 0] 111))
  have HI0 := Lib.hid (fresh_B w)
  go_enter Tryd.func67, Tryd.ntmps67
  go_wp2_with fail
  obtain ⟨W, hW⟩ : ∃ W, W = w.alloc (.cells #[.pointer none, .slice none 0 0] 111) := ⟨_, rfl⟩
  rw [← hW] at bn HI0 ⊢
  clear hW
  refine (hex_any c W (HD.out.below bn.out)).mono ?_
  rintro e w2 ⟨rfl, hb2⟩
  have HI2 := Lib.hid (HI0.out.stay hb2)
  have B2 := Lib.hid (bn.out.trans (hb2.mono bn.out.size))
  clear HI0 bn hb2
  obtain ⟨T, hT⟩ : ∃ T, T = [92, 117, 123] ++ hexB c ++ [125] := ⟨_, rfl⟩
  have HE := Lib.hid (show escK K c = T.flatMap fun (b : UInt8) => (formK K (b.toNat : Int)).getD [] by rw [hT]; rfl)
  generalize hexB c = X at hT hhl
  have e1 : (⟨#[92, 117, 123]⟩ : ByteArray) ++ ⟨X.toArray⟩ = ⟨([92, 117, 123] ++ X).toArray⟩ := ByteArray.mk_append_mk [92, 117, 123] X
  have e2 : (⟨([92, 117, 123] ++ X).toArray⟩ : ByteArray) ++ ⟨#[125]⟩ = ⟨([92, 117, 123] ++ X ++ [125]).toArray⟩ := ByteArray.mk_append_mk _ [125]
  obtain ⟨S1, hS1⟩ : ∃ S, S = [92, 117, 123] ++ X := ⟨_, rfl⟩
  rw [← hS1] at e1 hT
  rw [← hS1, ← hT] at e2
  have hTl : T.length ≤ 10 := by rw [hT, hS1]; simp; omega
  have hS1l : S1.length ≤ 9 := by rw [hS1]; simp; omega
  clear hT hS1
  go_wp2_with fail
  clear e1 e2
  go_loopw [40] (fun i wr => ∃ (k : Nat) (out : List UInt8), k ≤ T.length ∧ i = .int .i64 (k : Int) ∧ out.length ≤ 4 * k ∧ Hid (out = (T.take k).flatMap fun (b : UInt8) => (formK K (b.toNat : Int)).getD []) ∧ Hid (IsB w.heap.size w.heap.size out wr) ∧ Hid (Below w.heap.size w wr)) (fun i _ => T.length - (intOf i).toNat)
  case atStart => exact ⟨0, [], by omega, rfl, by simp, Lib.hid (by simp), HI2, B2⟩
  case round =>
    obtain ⟨k, out, hk, rfl, hol, Hout, HI, Hb⟩ := hrel
    have hsz : w.heap.size < wr.heap.size := isB_size HI.out
    by_cases hlt : k < T.length
    · obtain ⟨x, hx, hx2, hx256⟩ := byte8_at (s := T) (k := k) hlt
      have hki : (k : Int) < (T.length : Int) := by omega
      have Hn := Lib.hid (show (T.take (k + 1)).flatMap (fun (b : UInt8) => (formK K (b.toNat : Int)).getD []) = out ++ (formK K (x : Int)).getD [] by
        rw [List.take_succ_eq_append_getElem hlt, List.flatMap_append, ← Hout.out, List.flatMap_cons, List.flatMap_nil, List.append_nil, hx2])
      clear hx2
      go_wp2_with fail
      refine (form_any (Hv.out.stay Hb.out) HK.out (x : Int) (by omega) (HD.out.below Hb.out)).mono ?_
      rintro r w3 ⟨rfl, hb3⟩
      unfold formV
      have hYl : ((formK K (x : Int)).getD []).length ≤ 4 := by
        cases h : formK K (x : Int) with
        | none => simp
        | some y => exact (formK_ne h).2
      obtain ⟨Y, hY⟩ : ∃ X, X = (formK K (x : Int)).getD [] := ⟨_, rfl⟩
      obtain ⟨Z, hZ⟩ : ∃ Y, Y = (formK K (x : Int)).isSome := ⟨_, rfl⟩
      rw [← hY] at hYl Hn
      rw [← hY, ← hZ]
      clear hY hZ
      have hsz3 : w.heap.size ≤ w3.heap.size := by have := hb3.size; omega
      go_wp2_with fail
      refine (writeString_any w.heap.size w.heap.size out Y w3 (HI.out.stay hb3) (by omega) hsz3).mono ?_
      rintro e w4 ⟨rfl, hI4, hb4⟩
      have HR := Lib.hid (And.intro hI4 (Hb.out.trans ((hb3.mono Hb.out.size).trans hb4)))
      clear hI4 hb3 hb4
      go_wp2
      go_roundw
      case rel => exact ⟨k + 1, out ++ Y, by omega, by go_num, by rw [List.length_append]; omega, Lib.hid Hn.out.symm, Lib.hid HR.out.1, Lib.hid HR.out.2⟩
      case measure => simp [intOf]; omega
    · have hki : ¬ (k : Int) < (T.length : Int) := by omega
      have He := Lib.hid (show escK K c = out by rw [HE.out, Hout.out, List.take_of_length_le (by omega)])
      go_wp2_with fail
      refine (string_any w.heap.size w.heap.size out wr HI.out (by omega)).mono ?_
      rintro e w4 ⟨rfl, hb4⟩
      go_wp2
      go_ret
      exact ⟨by rw [He.out]; rfl, Hb.out.trans hb4⟩
end Go.Proofs.YtbcbmmgfdobdiaaDoor
/- convert.Encode, Convert with the policies other than Fail. -/
namespace Go.Proofs.YtbcbmmgfdobdiaaDoor
open Go.RowKit

theorem decK_scal (K : Cd) (hK : GoodK K) (p : Int) : ∀ (f i : Nat) (s : List UInt8) (o : List Int), decK K p f i s = .ok o → ∀ c ∈ o, scalB c = true := by
  intro f
  induction f with
  | zero => intro i s o h; rw [decK] at h; cases h; simp
  | succ f ih =>
    intro i s o h
    by_cases hs : s = []
    · subst hs; rw [decK_nil] at h; cases h; simp
    · obtain ⟨⟨c, n, ok⟩, hst⟩ : ∃ x, stepK K s = x := ⟨_, rfl⟩
      cases ok with
      | true =>
        rw [decK_ok hs hst] at h
        cases hr : decK K p f (i + n) (s.drop n) with
        | error e => rw [hr] at h; cases h
        | ok o' =>
          rw [hr, pre8_ok] at h; injection h with h; subst h
          intro x hx
          rcases List.mem_append.1 hx with hx | hx
          · simp at hx; subst hx; exact (stepK_ok hK hst).2
          · exact ih _ _ _ hr x hx
      | false =>
        by_cases hp : p = 1
        · subst hp; rw [decK_fail hs hst] at h; cases h
        · rw [decK_ill hs hst hp] at h
          cases hr : decK K p f (i + n) (s.drop n) with
          | error e => rw [hr] at h; cases h
          | ok o' =>
            rw [hr, pre8_ok] at h; injection h with h; subst h
            intro x hx
            rcases List.mem_append.1 hx with hx | hx
            · exact ill8_scal _ _ x hx
            · exact ih _ _ _ hr x hx
def EncKRel (w : World) (b : Nat) (L : Cd) (l : List Int) (p : Int) (i : Value) (wr : World) : Prop :=
  ∃ (k : Nat) (out : List UInt8), k ≤ l.length ∧ i = .int .i64 (k : Int) ∧ out.length ≤ 64 * k ∧ Hid (encK L p 0 l = pre8 out (encK L p k (l.drop k))) ∧ Hid (IsB b b out wr) ∧ Hid (flt8 wr (w.heap.size + 1) 0 0) ∧ Hid (Below w.heap.size w wr)
theorem encK_step {w w2 : World} {b : Nat} {L : Cd} {l : List Int} {p : Int} {k : Nat} {out add : List UInt8} (hk : k < l.length) (hol : out.length ≤ 64 * k) (hal : add.length ≤ 64)
    (he : encK L p 0 l = pre8 out (encK L p k (l.drop k))) (hs : encK L p k (l.drop k) = pre8 add (encK L p (k + 1) (l.drop (k + 1))))
    (hI : IsB b b (out ++ add) w2) (hF : flt8 w2 (w.heap.size + 1) 0 0) (hb : Below w.heap.size w w2) : EncKRel w b L l p (.int .i64 ((k : Int) + 1)) w2 :=
  ⟨k + 1, out ++ add, hk, by congr 1, by simp; omega, by show _ = _; rw [he, hs, pre8_pre8], hI, hF, hb⟩

set_option maxRecDepth 100000 in
set_option maxHeartbeats 4000000 in
theorem cencode_good (kind : Int) (A : Option Addr) (n c : Nat) (codes : List Int) (Al : Option Addr) (nl cl : Nat) (l : List Int) (p : Int) (w : World) (h : Reads w w.heap.size 1 A n (codes.map iv)) (hl : Reads w w.heap.size 1 Al nl (l.map iv)) (hC : CkE kind codes 0) (hp2 : 2 ≤ p) (hp4 : p ≤ 4) (hn : nl ≤ 1000000) (hsc : ∀ c ∈ l, scalB c = true) (hdg : Dig w) :
    Calls Tryd.prog 47 #[.agg #[.int .i64 kind, .slice A n c], .slice Al nl cl, .int .i64 p] w fun e w' => e = .returned (.tuple #[.string ⟨(encF (cdOf kind codes) p l).toArray⟩, .agg #[.int .i64 0, .int .i64 0]]) ∧ Below w.heap.size w w' := by
  have hL : Below w.heap.size w ((w.alloc (.cells #[.int .i64 kind, .slice A n c] 26)).alloc (.cells #[.int .i64 0, .int .i64 0] 37)) := ((Below.refl _ _).alloc (Nat.le_refl _) _).alloc (by simp) _
  have p1 : Blk ((w.alloc (.cells #[.int .i64 kind, .slice A n c] 26)).alloc (.cells #[.int .i64 0, .int .i64 0] 37)) w.heap.size 26 #[.int .i64 kind, .slice A n c] := (Blk.new w _ _).alloc _
  have p2 : Blk ((w.alloc (.cells #[.int .i64 kind, .slice A n c] 26)).alloc (.cells #[.int .i64 0, .int .i64 0] 37)) (w.heap.size + 1) 37 #[.int .i64 0, .int .i64 0] := by
    have := Blk.new (w.alloc (.cells #[.int .i64 kind, .slice A n c] 26)) 37 #[.int .i64 0, .int .i64 0]
    simpa using this
  have Hl := Lib.hid (show l.length = nl by have := hl.1; simpa using this)
  have HL := Lib.hid hL
  have HR := Lib.hid (h.stay hL)
  have HX := Lib.hid (hl.stay hL)
  have HC := Lib.hid hC
  have HS := Lib.hid hsc
  have g0 := p1.cell 0
  have g1 := p1.cell 1
  have HD := Lib.hid (hdg.below hL)
  have P2 := Lib.hid p2
  have hp1n : (p == 1) = false := by simp; omega
  have hp1 : p ≠ 1 := by omega
  have HEe := Lib.hid (encF_eq (L := cdOf kind codes) hp1 l)
  clear hL h hC hdg p1 p2 hl hsc
  go_enter Tryd.func47, Tryd.ntmps47
  go_wp2_with fail
  clear g0 g1
  obtain ⟨W, hW⟩ : ∃ W, W = (w.alloc (.cells #[.int .i64 kind, .slice A n c] 26)).alloc (.cells #[.int .i64 0, .int .i64 0] 37) := ⟨_, rfl⟩
  rw [← hW] at HL HR HD P2 HX ⊢
  clear hW
  refine (open_good kind A n c codes W HR.out HC.out).mono ?_
  rintro x w1 ⟨⟨v, rfl, hv⟩, hb1⟩
  have Hv := Lib.hid hv
  have HD1 := Lib.hid (HD.out.below hb1)
  have HL1 := Lib.hid (HL.out.trans (hb1.mono HL.out.size))
  have Q2 := Lib.hid (P2.out.stay hb1)
  have HX1 := Lib.hid (HX.out.stay hb1)
  clear hv hb1 HD HL P2 HX HR
  go_wp2_with fail
  refine (known7_any p w1 (by omega) hp4).mono ?_
  rintro e w2 ⟨rfl, rfl⟩
  have hlt2 := Q2.out.lt
  have bn := below_new w2 (.cells #[.pointer none, .slice none 0 0] 111)
  have HS0 := Lib.hid (show EncKRel w w2.heap.size (cdOf kind codes) l p (.int .i64 0) _ from ⟨0, [], Nat.zero_le _, rfl, by simp, by show _ = _; rw [pre8_nil]; rfl, fresh_B w2, Q2.out.stay bn, HL1.out.trans (bn.mono HL1.out.size)⟩)
  have hle2 := HL1.out.size
  clear bn
  go_wp2_with fail
  go_loopw [29] (fun i wr => EncKRel w w2.heap.size (cdOf kind codes) l p i wr ∧ Hid (Below w2.heap.size w2 wr)) (fun i _ => nl - (intOf i).toNat)
  case atStart => exact ⟨HS0.out, Lib.hid (below_new _ _)⟩
  case round =>
    obtain ⟨⟨k, out, hk, rfl, hol, Hee, HI, HF, Hb⟩, HB2⟩ := hrel
    rw [Hl.out] at hk
    have hsz : w2.heap.size < wr.heap.size := isB_size HI.out
    by_cases hlt : k < nl
    · obtain ⟨ad, u, rfl, hadB, hu, hcell⟩ := (HX1.out.below HB2.out).at_ hlt
      obtain ⟨x, hc, rfl⟩ := iv_at hu
      have Hdr := Lib.hid (drop_at hc)
      have hkl : k < l.length := by rw [Hl.out]; exact hlt
      have hxs := HS.out x (List.mem_of_getElem? hc)
      simp only [scalB, decide_eq_true_eq] at hxs
      have hx0 : -9223372036854775808 ≤ x ∧ x ≤ 9223372036854775807 := by omega
      have Hx0 := Lib.hid hx0
      clear hu hc hxs hx0
      go_wp2_with fail
      refine (form_any (Hv.out.stay HB2.out) (good_cd HC.out) x Hx0.out (HD1.out.below HB2.out)).mono ?_
      rintro e w3 ⟨rfl, hb3⟩
      have hb3' := HB2.out.trans (hb3.mono HB2.out.size)
      cases hf : formK (cdOf kind codes) x with
      | some Y =>
        have hYl := (formK_ne hf).2
        have Hst := Lib.hid (show encK (cdOf kind codes) p k (l.drop k) = pre8 Y (encK (cdOf kind codes) p (k + 1) (l.drop (k + 1))) by rw [Hdr.out, encK_some hf])
        clear hf
        unfold formV
        simp only [Option.getD_some, Option.isSome_some]
        have hsz3 : w2.heap.size ≤ w3.heap.size := by have := hb3.size; omega
        go_wp2_with fail
        refine (writeString_any w2.heap.size w2.heap.size out Y w3 (HI.out.stay hb3) (by omega) hsz3).mono ?_
        rintro e w4 ⟨rfl, hI4, hb4⟩
        have HR4 := Lib.hid (And.intro (encK_step (add := Y) hkl hol (by omega) Hee.out Hst.out hI4 (Blk.below (stayB HF.out hb3) hb4 (by omega)) (Hb.out.trans ((hb3.mono Hb.out.size).trans (hb4.mono hle2)))) (Lib.hid (hb3'.trans hb4)))
        clear hI4 hb4 hb3 hb3'
        go_wp2
        go_roundw
        case rel => exact HR4.out
        case measure => simp [intOf]; omega
      | none =>
        have Hst := Lib.hid (show encK (cdOf kind codes) p k (l.drop k) = pre8 (lostK (cdOf kind codes) x p) (encK (cdOf kind codes) p (k + 1) (l.drop (k + 1))) by rw [Hdr.out, encK_lost hf hp1])
        have hYl := lostK_len (cdOf kind codes) x p
        clear hf
        unfold formV
        simp only [Option.getD_none, Option.isSome_none]
        have Hv3 := Lib.hid (Hv.out.stay hb3')
        have HD3 := Lib.hid (HD1.out.below hb3')
        go_wp2_with fail
        refine (kinstead_any Hv3.out (good_cd HC.out) x p hp2 hp4 HD3.out).mono ?_
        rintro e w5 ⟨rfl, hb5⟩
        have hb35 := hb3.trans (hb5.mono hb3.size)
        generalize lostK (cdOf kind codes) x p = Y at Hst hYl
        have hsz3 : w2.heap.size ≤ w5.heap.size := by have := hb35.size; omega
        go_wp2_with fail
        refine (writeString_any w2.heap.size w2.heap.size out Y w5 (HI.out.stay hb35) (by omega) hsz3).mono ?_
        rintro e w4 ⟨rfl, hI4, hb4⟩
        have HR4 := Lib.hid (And.intro (encK_step (add := Y) hkl hol hYl Hee.out Hst.out hI4 (Blk.below (stayB HF.out hb35) hb4 (by omega)) (Hb.out.trans ((hb35.mono Hb.out.size).trans (hb4.mono hle2)))) (Lib.hid ((HB2.out.trans (hb35.mono HB2.out.size)).trans hb4)))
        clear hI4 hb4 hb3 hb3' hb5 hb35
        go_wp2
        go_roundw
        case rel => exact HR4.out
        case measure => simp [intOf]; omega
    · have Hok := Lib.hid (show encF (cdOf kind codes) p l = out by
        have h1 := HEe.out
        rw [Hee.out, List.drop_of_length_le (by rw [Hl.out]; omega), encK] at h1
        simp [pre8] at h1; exact h1.symm)
      have hki : ¬ (k : Int) < (nl : Int) := by omega
      go_wp2_with fail
      refine (string_any w2.heap.size w2.heap.size out wr HI.out (by omega)).mono ?_
      rintro e w4 ⟨rfl, hb4⟩
      have hF2 := Blk.below HF.out hb4 (by omega)
      have z0 := hF2.cell 0
      have z1 := hF2.cell 1
      have f0 := hF2.frozen 0
      have f1 := hF2.frozen 1
      have hF3 := (hF2.set_ 0 (.int .i64 0)).set_ 1 (.int .i64 0)
      have bF := ((Hb.out.trans (hb4.mono hle2)).setCell (p := ⟨w.heap.size + 1, 0, none⟩) (by simp) (.int .i64 0)).setCell (p := ⟨w.heap.size + 1, 1, none⟩) (by simp) (.int .i64 0)
      have D := Lib.hid (And.intro (hF3.cell 0) (hF3.cell 1))
      have BF := Lib.hid bF
      clear hF3 bF
      go_wp2
      obtain ⟨d0, d1⟩ := D.out
      have bF := BF.out
      clear D BF z0 z1 f0 f1 hF2
      generalize World.setCell (World.setCell _ ⟨w.heap.size + 1, 0, none⟩ (.int .i64 0)) ⟨w.heap.size + 1, 1, none⟩ (.int .i64 0) = V at d0 d1 bF ⊢
      exact bodyPost_ret (v := .tuple #[.string ⟨out.toArray⟩, .agg #[.int .i64 0, .int .i64 0]]) (by simp [results, Tryd.results47, go_sem] at d0 d1 ⊢; simp [d0, d1]) rfl ⟨by rw [Hok.out], bF⟩
end Go.Proofs.YtbcbmmgfdobdiaaDoor
/- convert.Convert, every policy, encodings without an error. -/
namespace Go.Proofs.YtbcbmmgfdobdiaaDoor
open Go.RowKit

set_option maxRecDepth 100000 in
set_option maxHeartbeats 4000000 in
theorem convP_good (k1 : Int) (A1 : Option Addr) (n1 c1 : Nat) (q1 : List Int) (k2 : Int) (A2 : Option Addr) (n2 c2 : Nat) (q2 : List Int) (s : List UInt8) (p : Int) (w : World) (h1 : Reads w w.heap.size 1 A1 n1 (q1.map iv)) (h2 : Reads w w.heap.size 1 A2 n2 (q2.map iv)) (hC1 : CkE k1 q1 0) (hC2 : CkE k2 q2 0) (hp2 : 2 ≤ p) (hp4 : p ≤ 4) (hs : s.length ≤ 100000) (hdg : Dig w) :
    Calls Tryd.prog 24 #[.agg #[.int .i64 k1, .slice A1 n1 c1], .agg #[.int .i64 k2, .slice A2 n2 c2], .string ⟨s.toArray⟩, .int .i64 p] w fun x w' => x = .returned (.tuple #[.string ⟨(encF (cdOf k2 q2) p (decF (cdOf k1 q1) p s)).toArray⟩, .agg #[.int .i64 0, .int .i64 0]]) ∧ Below w.heap.size w w' := by
  have hb0 : Below w.heap.size w (((w.alloc (.cells #[.int .i64 k1, .slice A1 n1 c1] 26)).alloc (.cells #[.int .i64 k2, .slice A2 n2 c2] 26)).alloc (.cells #[.int .i64 0, .int .i64 0] 37)) := (((Below.refl _ _).alloc (Nat.le_refl _) _).alloc (by simp) _).alloc (by simp; omega) _
  have p1 : Blk (((w.alloc (.cells #[.int .i64 k1, .slice A1 n1 c1] 26)).alloc (.cells #[.int .i64 k2, .slice A2 n2 c2] 26)).alloc (.cells #[.int .i64 0, .int .i64 0] 37)) w.heap.size 26 #[.int .i64 k1, .slice A1 n1 c1] := ((Blk.new w _ _).alloc _).alloc _
  have p2 : Blk (((w.alloc (.cells #[.int .i64 k1, .slice A1 n1 c1] 26)).alloc (.cells #[.int .i64 k2, .slice A2 n2 c2] 26)).alloc (.cells #[.int .i64 0, .int .i64 0] 37)) (w.heap.size + 1) 26 #[.int .i64 k2, .slice A2 n2 c2] := by
    have := (Blk.new (w.alloc (.cells #[.int .i64 k1, .slice A1 n1 c1] 26)) 26 #[.int .i64 k2, .slice A2 n2 c2]).alloc (.cells #[.int .i64 0, .int .i64 0] 37)
    simpa using this
  have p3 : Blk (((w.alloc (.cells #[.int .i64 k1, .slice A1 n1 c1] 26)).alloc (.cells #[.int .i64 k2, .slice A2 n2 c2] 26)).alloc (.cells #[.int .i64 0, .int .i64 0] 37)) (w.heap.size + 1 + 1) 37 #[.int .i64 0, .int .i64 0] := by
    have := Blk.new ((w.alloc (.cells #[.int .i64 k1, .slice A1 n1 c1] 26)).alloc (.cells #[.int .i64 k2, .slice A2 n2 c2] 26)) 37 #[.int .i64 0, .int .i64 0]
    simpa using this
  have H1 := Lib.hid (h1.stay hb0)
  have H2 := Lib.hid (h2.stay hb0)
  have HC1 := Lib.hid hC1
  have HC2 := Lib.hid hC2
  have g0 := p1.cell 0
  have g1 := p1.cell 1
  have g2 := p2.cell 0
  have g3 := p2.cell 1
  have P1 := Lib.hid p1
  have P2 := Lib.hid p2
  have P3 := Lib.hid p3
  have B0 := Lib.hid hb0
  have HD := Lib.hid (hdg.below hb0)
  have hp1n : (p == 1) = false := by simp; omega
  have Hdl := Lib.hid (decK_len (cdOf k1 q1) p s.length 0 s _ (Nat.le_refl _) (decF_eq (by omega) s))
  have Hds := Lib.hid (decK_scal (cdOf k1 q1) (good_cd hC1) p s.length 0 s _ (decF_eq (by omega) s))
  clear hb0 p1 p2 p3 h1 h2 hC1 hC2 hdg
  go_enter Tryd.func24, Tryd.ntmps24
  go_wp2_with fail
  clear g0 g1 g2 g3
  obtain ⟨W, hW⟩ : ∃ W, W = (((w.alloc (.cells #[.int .i64 k1, .slice A1 n1 c1] 26)).alloc (.cells #[.int .i64 k2, .slice A2 n2 c2] 26)).alloc (.cells #[.int .i64 0, .int .i64 0] 37)) := ⟨_, rfl⟩
  rw [← hW] at H1 H2 P1 P2 P3 B0 HD ⊢
  clear hW
  refine (open_good k1 A1 n1 c1 q1 W H1.out HC1.out).mono ?_
  rintro x w1 ⟨⟨v, rfl, hv⟩, hb1⟩
  have HD1 := Lib.hid (HD.out.below hb1)
  have G1 := Lib.hid (H1.out.stay hb1)
  have Q1 := Lib.hid (P1.out.stay hb1)
  have Q2 := Lib.hid (P2.out.stay hb1)
  have Q3 := Lib.hid (P3.out.stay hb1)
  have B1 := Lib.hid (B0.out.trans (hb1.mono B0.out.size))
  have G2 := Lib.hid (H2.out.stay hb1)
  clear P1 P2 P3 B0 H2
  have P1 := Q1
  have P2 := Q2
  have P3 := Q3
  have B0 := B1
  have H2 := G2
  clear Q1 Q2 Q3 B1 G2
  clear hv HD H1
  have g2 := P2.out.cell 0
  have g3 := P2.out.cell 1
  have hsz : w.heap.size + 1 + 1 < w1.heap.size := P3.out.lt
  go_wp2_with fail
  clear g2 g3
  refine (open_good k2 A2 n2 c2 q2 w1 H2.out HC2.out).mono ?_
  rintro x w2 ⟨⟨u, rfl, hu⟩, hb2⟩
  have HD2 := Lib.hid (HD1.out.below hb2)
  have H1 := Lib.hid (G1.out.stay hb2)
  have Q1 := Lib.hid (P1.out.stay hb2)
  have Q2 := Lib.hid (P2.out.stay hb2)
  have Q3 := Lib.hid (P3.out.stay hb2)
  have B1 := Lib.hid (B0.out.trans (hb2.mono B0.out.size))
  have G2 := Lib.hid (H2.out.stay hb2)
  clear P1 P2 P3 B0 H2
  have P1 := Q1
  have P2 := Q2
  have P3 := Q3
  have B0 := B1
  have H2 := G2
  clear Q1 Q2 Q3 B1 G2
  clear hu HD1 G1
  have g0 := P1.out.cell 0
  have g1 := P1.out.cell 1
  go_wp2_with fail
  clear g0 g1
  refine (cdecode_good k1 A1 n1 c1 q1 s p w2 H1.out HC1.out hp2 hp4 hs HD2.out).mono ?_
  rintro x w3 ⟨r, rfl, ho3, hb3⟩
  have HD3 := Lib.hid (HD2.out.below hb3)
  have Q1 := Lib.hid (P1.out.stay hb3)
  have Q2 := Lib.hid (P2.out.stay hb3)
  have Q3 := Lib.hid (P3.out.stay hb3)
  have B1 := Lib.hid (B0.out.trans (hb3.mono B0.out.size))
  have G2 := Lib.hid (H2.out.stay hb3)
  clear P1 P2 P3 B0 H2
  have P1 := Q1
  have P2 := Q2
  have P3 := Q3
  have B0 := B1
  have H2 := G2
  clear Q1 Q2 Q3 B1 G2
  obtain ⟨A3, c3, rfl, _, hr3⟩ := val_of_own ho3
  have bn := below_new w3 (.cells #[.int .i64 0, .int .i64 0] 37)
  have R3 := Lib.hid (hr3.stay bn)
  have HD4 := Lib.hid (HD3.out.below bn)
  have FN := Lib.hid (Blk.new w3 37 #[.int .i64 0, .int .i64 0])
  have Q1 := Lib.hid (P1.out.stay bn)
  have Q2 := Lib.hid (P2.out.stay bn)
  have Q3 := Lib.hid (P3.out.stay bn)
  have B1 := Lib.hid (B0.out.trans (bn.mono B0.out.size))
  have G2 := Lib.hid (H2.out.stay bn)
  clear P1 P2 P3 B0 H2
  have P1 := Q1
  have P2 := Q2
  have P3 := Q3
  have B0 := B1
  have H2 := G2
  clear Q1 Q2 Q3 B1 G2
  clear hr3 ho3 HD2 HD3 bn H1
  have g0 := P2.out.cell 0
  have g1 := P2.out.cell 1
  have e0 := FN.out.cell 0
  have e1 := FN.out.cell 1
  go_wp2_with fail
  clear g0 g1 e0 e1
  obtain ⟨W4, hW4⟩ : ∃ W, W = w3.alloc (.cells #[.int .i64 0, .int .i64 0] 37) := ⟨_, rfl⟩
  rw [← hW4] at H2 P1 P2 P3 B0 R3 HD4 ⊢
  clear hW4
  refine (cencode_good k2 A2 n2 c2 q2 A3 _ c3 (decF (cdOf k1 q1) p s) p W4 H2.out R3.out HC2.out hp2 hp4 (by have := Hdl.out; omega) Hds.out HD4.out).mono ?_
  rintro x w5 ⟨rfl, hb5⟩
  have hF3 := P3.out.stay hb5
  have b3 := B0.out.trans (hb5.mono B0.out.size)
  clear hb5 P1 P2 P3 B0 H2
  obtain ⟨o, ho⟩ : ∃ o, o = encF (cdOf k2 q2) p (decF (cdOf k1 q1) p s) := ⟨_, rfl⟩
  rw [← ho]
  have Ho := Lib.hid ho
  clear ho
  have hF := hF3
  have z0 := hF.cell 0
  have z1 := hF.cell 1
  have f0 := hF.frozen 0
  have f1 := hF.frozen 1
  have hF2 := (hF.set_ 0 (.int .i64 0)).set_ 1 (.int .i64 0)
  have bF := (b3.setCell (p := ⟨w.heap.size + 1 + 1, 0, none⟩) (by simp; omega) (.int .i64 0)).setCell (p := ⟨w.heap.size + 1 + 1, 1, none⟩) (by simp; omega) (.int .i64 0)
  have D := Lib.hid (And.intro (hF2.cell 0) (hF2.cell 1))
  have BF := Lib.hid bF
  clear bF hF2
  go_wp2
  obtain ⟨d0, d1⟩ := D.out
  have bF := BF.out
  clear D BF z0 z1 f0 f1 hF
  generalize World.setCell (World.setCell _ ⟨w.heap.size + 1 + 1, 0, none⟩ (.int .i64 0)) ⟨w.heap.size + 1 + 1, 1, none⟩ (.int .i64 0) = V at d0 d1 bF ⊢
  exact bodyPost_ret (v := .tuple #[.string ⟨o.toArray⟩, .agg #[.int .i64 0, .int .i64 0]]) (by simp [results, Tryd.results24, go_sem] at d0 d1 ⊢; simp [d0, d1]) rfl ⟨by rw [← Ho.out], bF⟩

theorem convK_any (k1 : Int) (A1 : Option Addr) (n1 c1 : Nat) (q1 : List Int) (k2 : Int) (A2 : Option Addr) (n2 c2 : Nat) (q2 : List Int) (s : List UInt8) (p : Int) (w : World) (h1 : Reads w w.heap.size 1 A1 n1 (q1.map iv)) (h2 : Reads w w.heap.size 1 A2 n2 (q2.map iv)) (hC1 : CkE k1 q1 0) (hC2 : CkE k2 q2 0) (hp1 : 1 ≤ p) (hp4 : p ≤ 4) (hs : s.length ≤ 100000) (hdg : Dig w) :
    Calls Tryd.prog 24 #[.agg #[.int .i64 k1, .slice A1 n1 c1], .agg #[.int .i64 k2, .slice A2 n2 c2], .string ⟨s.toArray⟩, .int .i64 p] w fun x w' => x = .returned (outT (convK (cdOf k1 q1) (cdOf k2 q2) p s)) ∧ Below w.heap.size w w' := by
  by_cases hp : p = 1
  · subst hp
    rw [convK_strict]
    exact convF_good k1 A1 n1 c1 q1 k2 A2 n2 c2 q2 s w h1 h2 hC1 hC2 (by omega) hdg
  · rw [convK, if_neg hp]
    exact convP_good k1 A1 n1 c1 q1 k2 A2 n2 c2 q2 s p w h1 h2 hC1 hC2 (by omega) hp4 hs hdg
theorem encK_len (L : Cd) (p : Int) : ∀ (l : List Int) (i : Nat) (o : List UInt8), encK L p i l = .ok o → o.length ≤ 64 * l.length := by
  intro l
  induction l with
  | nil => intro i o h; rw [encK] at h; cases h; simp
  | cons c l ih =>
    intro i o h
    cases hf : formK L c with
    | some x =>
      have hx := (formK_ne hf).2
      rw [encK_some hf] at h
      cases hr : encK L p (i + 1) l with
      | error e => rw [hr] at h; cases h
      | ok q =>
        rw [hr, pre8_ok] at h; injection h with h; subst h
        have := ih _ _ hr
        simp; omega
    | none =>
      by_cases hp : p = 1
      · subst hp; rw [encK_fail hf] at h; cases h
      · rw [encK_lost hf hp] at h
        have hx := lostK_len L c p
        cases hr : encK L p (i + 1) l with
        | error e => rw [hr] at h; cases h
        | ok q =>
          rw [hr, pre8_ok] at h; injection h with h; subst h
          have := ih _ _ hr
          simp; omega
theorem convK_len {K L : Cd} {p : Int} {s o : List UInt8} (h : convK K L p s = .ok o) : o.length ≤ 320 * s.length := by
  unfold convK at h
  split at h
  · have := strictK_len K L _ _ _ _ (Nat.le_refl _) h; omega
  · rename_i hp
    injection h with h
    subst h
    have h1 := encK_len L p _ _ _ (encF_eq (L := L) hp (decF K p s))
    have h2 := decK_len K p _ _ _ _ (Nat.le_refl _) (decF_eq (K := K) hp s)
    omega
end Go.Proofs.YtbcbmmgfdobdiaaDoor

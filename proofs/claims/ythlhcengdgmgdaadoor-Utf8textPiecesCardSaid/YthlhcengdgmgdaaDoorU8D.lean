/- utf8text.escaped, Decode, Valid. -/
import Derived.Test.YthlhcengdgmgdaaDoorU8E
import Derived.Test.YthlhcengdgmgdaaDoorStep
import Derived.WalkMore
namespace Go.Proofs.YthlhcengdgmgdaaDoor
open Go.RowKit

theorem hex_byte : ∀ x : Fin 256, hexB (x.val : Int) = [48, 48, dg (x.val / 16), dg (x.val % 16)] := by decide +kernel
theorem esc8_snoc (s : List UInt8) (k : Nat) (h : k < s.length) : esc8 (s.take (k + 1)) = esc8 (s.take k) ++ esc1 s[k] := by
  rw [List.take_succ_eq_append_getElem h, esc8, esc8, List.flatMap_append]; simp only [List.flatMap_cons, List.flatMap_nil, List.append_nil]
theorem esc8_len (s : List UInt8) : (esc8 s).length = 4 * s.length := by
  induction s with
  | nil => rfl
  | cons b s ih => simp [esc8, esc1] at ih ⊢; omega

set_option maxRecDepth 100000 in
set_option maxHeartbeats 2000000 in
theorem escaped_any (base n : Nat) (v : Value) (xs : List Int) (s : List UInt8) (w : World) (ho : w.ownsRow base 3 1 v n (xs.map iv)) (hbase : base ≤ w.heap.size) (hg : 0 < base) (hn : n ≤ 10000000) (hs : s.length ≤ 1000000) (hd : Dig w) :
    Calls Tryd.prog 39 #[v, .string ⟨s.toArray⟩] w fun e w' => ∃ v', e = .returned v' ∧ w'.ownsRow base 3 1 v' (n + 4 * s.length) ((xs ++ esc8 s).map iv) ∧ Below base w w' := by
  obtain ⟨i0, hi, hz0, hz1, hz2⟩ := info_parts Tryd.info3
  have Hd := Lib.hid hd
  clear hd
  go_enter Tryd.func39, Tryd.ntmps39
  go_wp2
  go_loopw [0, 9] (fun v i wr => ∃ k : Nat, k ≤ s.length ∧ i = .int .i64 k ∧ wr.ownsRow base 3 1 v (n + 4 * k) ((xs ++ esc8 (s.take k)).map iv) ∧ Below base w wr) (fun _ i _ => s.length - (intOf i).toNat)
  case atStart => exact ⟨0, Nat.zero_le _, rfl, by simpa [esc8] using ho, Below.refl _ _⟩
  case round =>
    obtain ⟨k, hk, rfl, ho, hb⟩ := hrel
    by_cases hlt : k < s.length
    · obtain ⟨x, hx, hx2, hx256⟩ := byte8_at (s := s) (k := k) hlt
      have Hs := Lib.hid (esc8_snoc s k hlt)
      have Hhx := Lib.hid (hex_byte ⟨x, hx256⟩)
      have He1 := Lib.hid (show (esc1 s[k]).map iv = [.int .i64 92, .int .i64 120, .int .i64 ((dg (x / 16)).toNat : Int), .int .i64 ((dg (x % 16)).toNat : Int)] by rw [esc1, hx2]; rfl)
      have hk3 : (k : Int) < (s.length : Int) := by omega
      clear hx2
      go_wp2_with fail
      refine (hex_any (x : Int) _ (Hd.out.belowB hb hg)).mono ?_
      rintro e w1 ⟨rfl, hb1⟩
      rw [Hhx.out]
      simp only at He1 ⊢
      have ho1 := own_below ho hb1
      have hb2 := hb.trans (hb1.mono (Nat.le_trans hbase hb.size))
      have hbz : base ≤ w1.heap.size := by have := hb2.size; omega
      clear hb1 ho hb
      have ha := (dg (x / 16)).toNat_lt
      have hbb := (dg (x % 16)).toNat_lt
      generalize dg (x / 16) = a at He1 ha ⊢
      generalize dg (x % 16) = b at He1 hbb ⊢
      have qa : IntKind.i64.wrap (a.toNat : Int) = (a.toNat : Int) := IntWalk.i64_in _ (by omega)
      have qb : IntKind.i64.wrap (b.toNat : Int) = (b.toNat : Int) := IntWalk.i64_in _ (by omega)
      have Qa := Lib.hid qa
      have Qb := Lib.hid qb
      clear qa qb
      go_wp2
      go_region_held3 (fun _ => True) (trivial) ((refine step_appN (by rfl) (.tmp 17) (.tmp 24) 27 (by rfl) Tryd.underlying27 hi hz0 hz1 hz2 rfl (by omega) u0 (n + 4 * k) ((xs ++ esc8 (s.take k)).map iv) (by rfl) ((ho1.alloc _).drew) [.int .i64 92, .int .i64 120, .int .i64 (IntKind.i64.wrap (a.toNat : Int)), .int .i64 (IntKind.i64.wrap (b.toNat : Int))] 4 (by omega) rfl ⟨w1.heap.size, 0, none⟩ (by rfl) (World.news_of_block (cs := #[.int .i64 92, .int .i64 120, .int .i64 (IntKind.i64.wrap (a.toNat : Int)), .int .i64 (IntKind.i64.wrap (b.toNat : Int))]) (t := 3) (fr := (0, 0)) (heap_alloc_new w1 _)) (by simp [Value.oneCell']) (by omega) (by simp; omega) ?_; intro v3 w3 ho3 hB3 _))
      all_goals
        have HB := Lib.hid (hb2.trans (((((Below.refl _ _).alloc hbz _).drew).trans hB3)))
        clear hB3
        rw [Qa.out, Qb.out, ← He1.out, ← List.map_append, List.append_assoc, ← Hs.out] at ho3
        go_wp2
        go_roundw
        case rel => exact ⟨k + 1, by omega, by go_num, by rw [show n + 4 * (k + 1) = n + 4 * k + 4 by omega]; exact ho3, HB.out⟩
        case measure => simp [intOf]; omega
    · have Ht := Lib.hid (show s.take k = s from List.take_of_length_le (by omega))
      obtain rfl : k = s.length := by omega
      rw [Ht.out] at ho
      go_wp2
      go_ret
      exact ⟨u0, rfl, ho, hb⟩

def outI : Except Nat (List Int) → List Int × Int × Int
  | .ok o => (o, 0, 0)
  | .error i => ([], 9, (i : Int))
def dec8R (s : List UInt8) (p : Int) : List Int × Int × Int := if known8 p = true then outI (dec8 p s.length 0 s) else ([], 8, 0)
def Dec8Rel (w : World) (s : List UInt8) (p : Int) (v i : Value) (wr : World) : Prop :=
  ∃ (k f : Nat) (out : List Int), k ≤ s.length ∧ i = .int .i64 (k : Int) ∧ (s.drop k).length ≤ f ∧ out.length ≤ 5 * k ∧ Hid (dec8 p s.length 0 s = pre8 out (dec8 p f k (s.drop k))) ∧
    wr.ownsRow (w.heap.size + 1) 3 1 v out.length (out.map iv) ∧ Hid (flt8 wr w.heap.size 0 0) ∧ Hid (Below w.heap.size w wr)
theorem dec8_next {w w2 : World} {s : List UInt8} {p : Int} {k f n : Nat} {out add : List Int} {v2 : Value} (hn1 : 1 ≤ n) (hk : k + n ≤ s.length) (hf : (s.drop k).length ≤ f + 1) (hol : out.length ≤ 5 * k) (hal : add.length ≤ 5 * n)
    (he : dec8 p s.length 0 s = pre8 out (dec8 p (f + 1) k (s.drop k))) (hs : dec8 p (f + 1) k (s.drop k) = pre8 add (dec8 p f (k + n) ((s.drop k).drop n)))
    (hF : flt8 w2 w.heap.size 0 0) (hb : Below w.heap.size w w2)
    (ho : w2.ownsRow (w.heap.size + 1) 3 1 v2 (out.length + add.length) (out.map iv ++ add.map iv)) : Dec8Rel w s p v2 (.int .i64 ((k : Int) + (n : Int))) w2 := by
  refine ⟨k + n, f, out ++ add, hk, by congr 1, ?_, by simp; omega, ?_, by simpa using ho, hF, hb⟩
  · rw [List.length_drop] at hf ⊢; omega
  · show dec8 p s.length 0 s = _
    rw [he, hs, pre8_pre8, List.drop_drop]
theorem ext_drop (s : List UInt8) (k : Nat) : (⟨s.toArray⟩ : ByteArray).extract k s.length = ⟨(s.drop k).toArray⟩ := by rw [ByteArray.extract_mk, List.take_of_length_le (by simp)]
theorem ext_part (s : List UInt8) (k n : Nat) : (⟨s.toArray⟩ : ByteArray).extract k (k + n) = ⟨((s.drop k).take n).toArray⟩ := by rw [ByteArray.extract_mk]; congr 3; omega

set_option maxRecDepth 100000 in
set_option maxHeartbeats 4000000 in
theorem decode8_any (s : List UInt8) (p : Int) (w : World) (hs : s.length ≤ 100000) (hd : Dig w) :
    Calls Tryd.prog 20 #[.string ⟨s.toArray⟩, .int .i64 p] w fun e w' => ∃ v, e = .returned (.tuple #[v, .agg #[.int .i64 (dec8R s p).2.1, .int .i64 (dec8R s p).2.2]]) ∧
      w'.ownsRow (w.heap.size + 1) 3 1 v (dec8R s p).1.length ((dec8R s p).1.map iv) ∧ Below w.heap.size w w' := by
  obtain ⟨i0, hi, hz0, hz1, hz2⟩ := info_parts Tryd.info3
  cases hkn : known8 p with
  | false =>
    have He := Lib.hid (show dec8R s p = ([], 8, 0) by simp [dec8R, hkn])
    have Hk := Lib.hid hkn
    clear hkn hd
    go_enter Tryd.func20, Tryd.ntmps20
    go_wp2_with fail
    go_step3
    go_wp2_with fail
    refine (known8_any p _).mono ?_
    rintro e w1 ⟨rfl, rfl⟩
    rw [Hk.out]
    go_wp2
    rw [Exit.noGoto_ret]
    refine bodyPost_ret (v := .tuple #[.slice none 0 0, .agg #[.int .i64 8, .int .i64 0]]) (by simp [results, Tryd.results20, go_sem]) rfl ⟨_, by rw [He.out], by rw [He.out]; exact World.ownsRow_nil _ _ _ _, ?_⟩
    exact (Below.refl _ _).alloc (Nat.le_refl _) _
  | true =>
    have He := Lib.hid (show dec8R s p = outI (dec8 p s.length 0 s) by simp [dec8R, hkn])
    have hp : 1 ≤ p ∧ p ≤ 4 := by simpa [known8] using hkn
    obtain ⟨hp1, hp4⟩ := hp
    have Hk := Lib.hid hkn
    have Hd := Lib.hid hd
    have hg := hd.lt
    clear hkn hd
    go_enter Tryd.func20, Tryd.ntmps20
    go_wp2_with fail
    go_step3
    go_wp2_with fail
    refine (known8_any p _).mono ?_
    rintro e w1 ⟨rfl, rfl⟩
    rw [Hk.out]
    go_wp2_with fail
    go_step3
    go_wp2_with fail
    go_loopw [6, 7] (fun v i wr => Dec8Rel w s p v i wr) (fun _ i _ => s.length - (intOf i).toNat)
    case atStart => exact ⟨0, s.length, [], Nat.zero_le _, rfl, by simp, by simp, by show _ = _; rw [pre8_nil]; rfl, World.ownsRow_nil _ _ _ _, Blk.new _ _ _, (Below.refl _ _).alloc (Nat.le_refl _) _⟩
    case round =>
      obtain ⟨k, f, out, hk, rfl, hf, hol, Hee, ho, HF, Hb⟩ := hrel
      have hsz : w.heap.size + 1 ≤ wr.heap.size := Blk.lt HF.out
      by_cases hlt : k < s.length
      · have hne : s.drop k ≠ [] := by intro e; have := congrArg List.length e; rw [List.length_drop, List.length_nil] at this; omega
        have hbd := step8_bd _ hne
        have hx1 := ext_drop s k
        obtain ⟨⟨c, n, ok⟩, hst⟩ : ∃ x, step8 (s.drop k) = x := ⟨_, rfl⟩
        rw [hst] at hbd
        simp only at hbd
        obtain ⟨hn1, hn4, hn3⟩ := hbd
        have hTl : (s.drop k).length = s.length - k := List.length_drop
        rw [hTl] at hn3
        obtain ⟨g, rfl⟩ : ∃ g, f = g + 1 := ⟨f - 1, by rw [hTl] at hf; omega⟩
        have hx2 := ext_part s k n
        have Hnx := Lib.hid (fun (add : List Int) (v2 : Value) (w2 : World) h1 h2 h3 h4 h5 => dec8_next (w := w) (w2 := w2) (p := p) (add := add) (v2 := v2) hn1 (show k + n ≤ s.length by omega) hf hol h1 Hee.out h2 h3 h4 h5)
        have Hst := Lib.hid hst
        have Hne := Lib.hid hne
        have Hf := Lib.hid hf
        have hpl : ((s.drop k).take n).length ≤ 4 := by rw [List.length_take]; omega
        clear hst hne hf
        have hTl2 : (s.drop k).length ≤ 1000000 := by omega
        have HTl := Lib.hid hTl
        clear hTl
        generalize hT : s.drop k = T at hx1 hx2 Hst Hne hpl hTl2 HTl
        have HT := Lib.hid hT
        clear hT
        generalize hP : T.take n = P at hx2 hpl
        have HP := Lib.hid hP
        clear hP
        have hkn1 : (k : Int) + (n : Int) ≤ (s.length : Int) := by omega
        have hkn2 : k + n ≤ s.length := by omega
        cases ok with
        | true =>
          have Hs := Lib.hid (show dec8 p (g + 1) k (s.drop k) = pre8 [(c : Int)] (dec8 p g (k + n) ((s.drop k).drop n)) by rw [HT.out]; exact dec8_ok Hne.out Hst.out)
          go_wp2_with fail
          refine (step8H T c n true _ hTl2 Hst.out).mono ?_
          rintro e w1 ⟨rfl, rfl⟩
          go_wp2_with (at_builtin; go_must (refine wpList_app1 rfl (.tmp 38) (.tmp 40) 27 rfl Tryd.underlying27 hi hz0 hz1 hz2 rfl (by omega) wr u6 _ _ rfl ho _ rfl rfl (by omega) hsz ?_); intro v3 w3 ho3 hB3 _)
          go_roundw
          case rel => exact Hnx.out [(c : Int)] _ _ (by simp; omega) Hs.out (Blk.below HF.out hB3 (by omega)) (Hb.out.trans (hB3.mono (by omega))) ho3
          case measure => simp [intOf]; omega
        | false =>
          by_cases hp1' : p = 1
          · subst hp1'
            have Herr := Lib.hid (show dec8R s 1 = ([], 9, (k : Int)) by rw [He.out, Hee.out, HT.out, dec8_fail Hne.out Hst.out]; rfl)
            have c0 := HF.out.cell 0
            have c1 := HF.out.cell 1
            have f0 := HF.out.frozen 0
            have f1 := HF.out.frozen 1
            have hF2 := (HF.out.set_ 0 (.int .i64 9)).set_ 1 (.int .i64 (k : Int))
            have d0 := hF2.cell 0
            have d1 := hF2.cell 1
            have hsub : (k : Int) + (n : Int) - (n : Int) = (k : Int) := by omega
            go_wp2_with fail
            refine (step8H T c n false _ hTl2 Hst.out).mono ?_
            rintro e w1 ⟨rfl, rfl⟩
            go_wp2
            rw [Exit.noGoto_ret]
            refine bodyPost_ret (v := .tuple #[.slice none 0 0, .agg #[.int .i64 9, .int .i64 (k : Int)]]) (by simp [results, Tryd.results20, go_sem] at d0 d1 ⊢; simp [d0, d1]) rfl ⟨_, by rw [Herr.out], by rw [Herr.out]; exact World.ownsRow_nil _ _ _ _, ?_⟩
            exact (Hb.out.setCell (by simp) _).setCell (by simp) _
          · have hp1n : (p == 1) = false := by simp; omega
            have Hs := Lib.hid (show dec8 p (g + 1) k (s.drop k) = pre8 (ill8 P p) (dec8 p g (k + n) ((s.drop k).drop n)) by rw [HT.out, ← HP.out]; exact dec8_ill Hne.out Hst.out hp1')
            by_cases hp3 : p = 3
            · subst hp3
              clear hp1'
              have HR := Lib.hid (Hnx.out (ill8 P 3) _ wr (by simp [ill8]) Hs.out HF.out Hb.out (by simpa [ill8] using ho))
              go_wp2_with fail
              refine (step8H T c n false _ hTl2 Hst.out).mono ?_
              rintro e w1 ⟨rfl, rfl⟩
              go_wp2
              go_roundw
              case rel => exact HR.out
              case measure => simp [intOf]; omega
            · have hp3n : (p == 3) = false := by simp; omega
              by_cases hp2 : p = 2
              · subst hp2
                clear hp1' hp3
                have Hi := Lib.hid (show ill8 P 2 = [65533] by simp [ill8])
                go_wp2_with fail
                refine (step8H T c n false _ hTl2 Hst.out).mono ?_
                rintro e w1 ⟨rfl, rfl⟩
                go_wp2_with (at_builtin; go_must (refine wpList_app1 rfl (.tmp 53) (.tmp 54) 27 rfl Tryd.underlying27 hi hz0 hz1 hz2 rfl (by omega) wr u6 _ _ rfl ho _ rfl rfl (by omega) hsz ?_); intro v3 w3 ho3 hB3 _)
                go_roundw
                case rel => exact Hnx.out (ill8 P 2) _ _ (by rw [Hi.out]; simp; omega) Hs.out (Blk.below HF.out hB3 (by omega)) (Hb.out.trans (hB3.mono (by omega))) (by rw [Hi.out]; exact ho3)
                case measure => simp [intOf]; omega
              · obtain rfl : p = 4 := by omega
                clear hp1' hp3 hp2
                have Hi := Lib.hid (show ill8 P 4 = esc8 P by simp [ill8])
                have Hel := Lib.hid (esc8_len P)
                have HPl := Lib.hid (show P.length ≤ n by rw [← HP.out, List.length_take]; omega)
                go_wp2_with fail
                refine (step8H T c n false _ hTl2 Hst.out).mono ?_
                rintro e w1 ⟨rfl, rfl⟩
                go_wp2_with fail
                refine (escaped_any (w.heap.size + 1) out.length u6 out P wr ho hsz (by omega) (by omega) (by omega) (Hd.out.below Hb.out)).mono ?_
                rintro e w3 ⟨v3, rfl, ho3, hB3⟩
                have HR := Lib.hid (Hnx.out (ill8 P 4) v3 w3 (by rw [Hi.out, Hel.out]; have := HPl.out; omega) Hs.out (Blk.below HF.out hB3 (by omega)) (Hb.out.trans (hB3.mono (by omega))) (by rw [Hi.out, Hel.out, ← List.map_append]; exact ho3))
                clear ho3 hB3
                go_wp2
                go_roundw
                case rel => exact HR.out
                case measure => simp [intOf]; omega
      · have Hok := Lib.hid (show dec8R s p = (out, 0, 0) by
          rw [He.out, Hee.out, List.drop_of_length_le (by omega), dec8_nil]; simp [pre8, outI])
        have c0 := HF.out.cell 0
        have c1 := HF.out.cell 1
        have f0 := HF.out.frozen 0
        have f1 := HF.out.frozen 1
        have hF2 := (HF.out.set_ 0 (.int .i64 0)).set_ 1 (.int .i64 0)
        have d0 := hF2.cell 0
        have d1 := hF2.cell 1
        obtain ⟨A1, c2, rfl, _, hr1⟩ := val_of_own ho
        go_wp2
        rw [Exit.noGoto_ret]
        refine bodyPost_ret (v := .tuple #[.slice A1 out.length c2, .agg #[.int .i64 0, .int .i64 0]]) (by simp [results, Tryd.results20, go_sem] at d0 d1 ⊢; simp [d0, d1]) rfl ⟨_, by rw [Hok.out], ?_, ?_⟩
        · rw [Hok.out]
          exact ownsRow_setCell_below (ownsRow_setCell_below ho (by simp) _) (by simp) _
        · exact (Hb.out.setCell (by simp) _).setCell (by simp) _

theorem decode8H (s : List UInt8) (o : List Int) (p e a : Int) (w : World) (hs : s.length ≤ 100000) (hd : Dig w) (hR : dec8R s p = (o, e, a)) :
    Calls Tryd.prog 20 #[.string ⟨s.toArray⟩, .int .i64 p] w fun x w' => ∃ A' c', x = .returned (.tuple #[.slice A' o.length c', .agg #[.int .i64 e, .int .i64 a]]) ∧ Reads w' w'.heap.size 1 A' o.length (o.map iv) ∧ Below w.heap.size w w' :=
  (decode8_any s p w hs hd).mono fun x w' ⟨v, h1, h2, h3⟩ => by
    rw [hR] at h1 h2
    obtain ⟨A', c', rfl, _, hr⟩ := val_of_own h2
    exact ⟨A', c', h1, hr, h3⟩

/-- well-formed -/
def val8 (s : List UInt8) : Bool := decide ((dec8R s 1).2.1 = 0)
set_option maxRecDepth 100000 in
set_option maxHeartbeats 1000000 in
theorem valid8_any (s : List UInt8) (w : World) (hs : s.length ≤ 100000) (hd : Dig w) :
    Calls Tryd.prog 23 #[.string ⟨s.toArray⟩] w fun x w' => x = .returned (.bool (val8 s)) ∧ Below w.heap.size w w' := by
  obtain ⟨⟨o, e, a⟩, hR⟩ : ∃ x, dec8R s 1 = x := ⟨_, rfl⟩
  have Hd := Lib.hid hd
  have HR := Lib.hid hR
  have Hv := Lib.hid (show (e == 0) = val8 s by rw [val8, hR]; by_cases h : e = 0 <;> simp [h])
  clear hd hR
  go_enter Tryd.func23, Tryd.ntmps23
  go_wp2_with fail
  refine (decode8H s o 1 e a w hs Hd.out HR.out).mono ?_
  rintro x w2 ⟨A2, c2, rfl, hr2, hb2⟩
  have f5 := Blk.new w2 24 #[.int .i64 e, .int .i64 a]
  have k0 := f5.cell 0
  go_wp2
  go_ret
  exact ⟨ret_bool Hv.out, hb2.alloc hb2.size _⟩
end Go.Proofs.YthlhcengdgmgdaaDoor

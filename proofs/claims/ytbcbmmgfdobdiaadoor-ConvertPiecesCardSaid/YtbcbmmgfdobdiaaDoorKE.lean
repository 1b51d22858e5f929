/- convert.Decode, instead, Encode, Convert with the policies other than Fail. -/
import Derived.Test.YtbcbmmgfdobdiaaDoorKD
namespace Go.Proofs.YtbcbmmgfdobdiaaDoor
open Go.RowKit

set_option maxRecDepth 100000 in
set_option maxHeartbeats 2000000 in
theorem known7_any (p : Int) (w : World) (h1 : 1 ≤ p) (h2 : p ≤ 4) : Calls Tryd.prog 65 #[.int .i64 p] w fun e w' => e = .returned (.bool true) ∧ w' = w := by
  go_enter Tryd.func65, Tryd.ntmps65
  go_wp2
  go_ret
  exact ⟨rfl, rfl⟩
theorem nilV {W : World} {K : Cd} {v : Value} (h : CdV W K v) {ρ : Operand → Value} {o : Oper} {x : Operand} (ho : o.op = .nilCheck x) (hx : ρ x = v) (w : World) : (execOp ρ o).run Tryd.prog w = .ok (.value v) w := by
  cases K with
  | u8 => obtain rfl : v = .iface 103 (.agg #[]) := h; simp only [execOp, ho, hx]; kernel_rfl
  | u16 big => obtain rfl : v = .iface 105 (.agg #[.bool big]) := h; simp only [execOp, ho, hx]; kernel_rfl
  | one codes => obtain ⟨A, cap, m, n, rfl, hr, hm⟩ := h; simp only [execOp, ho, hx]; kernel_rfl
theorem wpList_nilV {ops : Array Oper} {rest : List Oper} {o : Oper} {a : Act} {Q : Exit → Act → World → Prop} (hgd : o.guard = none) (x : Operand) (ho : o.op = .nilCheck x) {w W : World} {K : Cd} {v : Value} (hx : a.eval x = v) (hv : CdV W K v)
    (h : wpList Tryd.prog ops Q rest (a.put o.dst v) w) : wpList Tryd.prog ops Q (o :: rest) a w := by
  refine wpList_plain hgd fun K' hK' => ?_
  unfold Oper.wp
  refine upon_to (nilV hv ho hx w) ?_
  exact hK' _ _ h

set_option maxRecDepth 100000 in
set_option maxHeartbeats 4000000 in
theorem cdecode_good (kind : Int) (A : Option Addr) (n c : Nat) (codes : List Int) (s : List UInt8) (p : Int) (w : World) (h : Reads w w.heap.size 1 A n (codes.map iv)) (hC : CkE kind codes 0) (hp2 : 2 ≤ p) (hp4 : p ≤ 4) (hs : s.length ≤ 100000) (hdg : Dig w) :
    Calls Tryd.prog 46 #[.agg #[.int .i64 kind, .slice A n c], .string ⟨s.toArray⟩, .int .i64 p] w fun e w' => ∃ r, e = .returned (.tuple #[r, .agg #[.int .i64 0, .int .i64 0]]) ∧
      w'.ownsRow w.heap.size 3 1 r (decF (cdOf kind codes) p s).length ((decF (cdOf kind codes) p s).map iv) ∧ Below w.heap.size w w' := by
  have hL : Below w.heap.size w ((w.alloc (.cells #[.int .i64 kind, .slice A n c] 26)).alloc (.cells #[.int .i64 0, .int .i64 0] 37)) := ((Below.refl _ _).alloc (Nat.le_refl _) _).alloc (by simp) _
  have p1 : Blk ((w.alloc (.cells #[.int .i64 kind, .slice A n c] 26)).alloc (.cells #[.int .i64 0, .int .i64 0] 37)) w.heap.size 26 #[.int .i64 kind, .slice A n c] := (Blk.new w _ _).alloc _
  have p2 : Blk ((w.alloc (.cells #[.int .i64 kind, .slice A n c] 26)).alloc (.cells #[.int .i64 0, .int .i64 0] 37)) (w.heap.size + 1) 37 #[.int .i64 0, .int .i64 0] := by
    have := Blk.new (w.alloc (.cells #[.int .i64 kind, .slice A n c] 26)) 37 #[.int .i64 0, .int .i64 0]
    simpa using this
  have HL := Lib.hid hL
  have HR := Lib.hid (h.stay hL)
  have HC := Lib.hid hC
  have g0 := p1.cell 0
  have g1 := p1.cell 1
  have HD := Lib.hid (hdg.below hL)
  have P2 := Lib.hid p2
  clear hL h hC hdg p1 p2
  go_enter Tryd.func46, Tryd.ntmps46
  go_wp2_with fail
  clear g0 g1
  obtain ⟨W, hW⟩ : ∃ W, W = (w.alloc (.cells #[.int .i64 kind, .slice A n c] 26)).alloc (.cells #[.int .i64 0, .int .i64 0] 37) := ⟨_, rfl⟩
  rw [← hW] at HL HR HD P2 ⊢
  clear hW
  refine (open_good kind A n c codes W HR.out HC.out).mono ?_
  rintro x w1 ⟨⟨v, rfl, hv⟩, hb1⟩
  have Hv := Lib.hid hv
  have HD1 := Lib.hid (HD.out.below hb1)
  have HL1 := Lib.hid (HL.out.trans (hb1.mono HL.out.size))
  have Q2 := Lib.hid (P2.out.stay hb1)
  clear hv hb1 HD HL P2
  go_wp2_with fail
  refine (known7_any p w1 (by omega) hp4).mono ?_
  rintro e w2 ⟨rfl, rfl⟩
  go_wp2_with (first | (refine wpList_nilV rfl _ rfl rfl Hv.out ?_) | fail)
  refine (kdecode_any (cdOf kind codes) v s p w2 Hv.out hp2 hp4 hs HD1.out).mono ?_
  rintro e w3 ⟨r, rfl, ho3, hb3⟩
  have hF := Q2.out.stay hb3
  have hlt := hF.lt
  have hlt2 := Q2.out.lt
  obtain ⟨A3, c3, rfl, _, _⟩ := val_of_own ho3
  have z0 := hF.cell 0
  have z1 := hF.cell 1
  have f0 := hF.frozen 0
  have f1 := hF.frozen 1
  have hF2 := (hF.set_ 0 (.int .i64 0)).set_ 1 (.int .i64 0)
  have b3 := HL1.out.trans (hb3.mono HL1.out.size)
  have bF := (b3.setCell (p := ⟨w.heap.size + 1, 0, none⟩) (by simp) (.int .i64 0)).setCell (p := ⟨w.heap.size + 1, 1, none⟩) (by simp) (.int .i64 0)
  have oF := own_base (ownsRow_setCell_below (ownsRow_setCell_below (a := ⟨w.heap.size + 1, 0, none⟩) ho3 (by simpa using hlt2) (.int .i64 0)) (a := ⟨w.heap.size + 1, 1, none⟩) (by simpa using hlt2) (.int .i64 0)) (base' := w.heap.size) (by omega)
  have D := Lib.hid (And.intro (hF2.cell 0) (hF2.cell 1))
  have BF := Lib.hid bF
  have OF := Lib.hid oF
  clear bF hF2 oF b3 hF ho3 hb3
  go_wp2
  obtain ⟨d0, d1⟩ := D.out
  have bF := BF.out
  have oF := OF.out
  clear D BF OF z0 z1 f0 f1
  generalize World.setCell (World.setCell _ ⟨w.heap.size + 1, 0, none⟩ (.int .i64 0)) ⟨w.heap.size + 1, 1, none⟩ (.int .i64 0) = V at d0 d1 bF oF ⊢
  exact bodyPost_ret (v := .tuple #[.slice A3 (decF (cdOf kind codes) p s).length c3, .agg #[.int .i64 0, .int .i64 0]]) (by simp [results, Tryd.results46, go_sem] at d0 d1 ⊢; simp [d0, d1]) rfl ⟨_, rfl, oF, bF⟩

theorem lostK_len (K : Cd) (c p : Int) : (lostK K c p).length ≤ 64 := by
  have h1 : ∀ x : Int, ((formK K x).getD []).length ≤ 4 := by
    intro x
    cases h : formK K x with
    | none => simp
    | some y => exact (formK_ne h).2
  have h2 : ∀ l : List UInt8, (l.flatMap fun (b : UInt8) => (formK K (b.toNat : Int)).getD []).length ≤ 4 * l.length := by
    intro l
    induction l with
    | nil => simp
    | cons b l ih => rw [List.flatMap_cons, List.length_append, List.length_cons]; have := h1 (b.toNat : Int); omega
  unfold lostK
  split
  · have := h2 ([92, 117, 123] ++ hexB c ++ [125])
    have hl := hexB_len c
    unfold escK
    simp only [List.length_append, List.length_cons, List.length_nil] at this ⊢
    omega
  · split
    · simp
    · have := h1 63
      cases h : formK K 65533 with
      | none => simp only [Option.getD_none]; omega
      | some y => simp only [Option.getD_some]; have := (formK_ne h).2; omega
theorem lostK_2 (K : Cd) (c : Int) : lostK K c 2 = (formK K 65533).getD ((formK K 63).getD []) := by simp [lostK]
theorem lostK_3 (K : Cd) (c : Int) : lostK K c 3 = [] := by simp [lostK]
theorem lostK_4 (K : Cd) (c : Int) : lostK K c 4 = escK K c := by simp [lostK]

set_option maxRecDepth 100000 in
set_option maxHeartbeats 4000000 in
theorem kinstead_any {w : World} {K : Cd} {v : Value} (h : CdV w K v) (hK : GoodK K) (c p : Int) (hp2 : 2 ≤ p) (hp4 : p ≤ 4) (hdg : Dig w) :
    Calls Tryd.prog 67 #[v, .int .i64 c, .int .i64 p] w fun x w' => x = .returned (.string ⟨(lostK K c p).toArray⟩) ∧ Below w.heap.size w w' := by
  have Hv := Lib.hid h
  have HD := Lib.hid hdg
  have HK := Lib.hid hK
  clear h hdg hK
  by_cases e3 : p = 3
  · subst e3
    rw [lostK_3]
    go_enter Tryd.func67, Tryd.ntmps67
    go_wp2
    go_ret
    exact ⟨rfl, Below.refl _ _⟩
  by_cases e2 : p = 2
  · subst e2
    clear e3
    rw [lostK_2]
    go_enter Tryd.func67, Tryd.ntmps67
    go_wp2_with fail
    refine (form_any Hv.out HK.out 65533 (by omega) HD.out).mono ?_
    rintro r w1 ⟨rfl, hb1⟩
    have Hv1 := Lib.hid (Hv.out.stay hb1)
    have HD1 := Lib.hid (HD.out.below hb1)
    have B1 := Lib.hid hb1
    clear hb1
    cases hf : formK K 65533 with
    | some x =>
      unfold formV
      simp only [Option.getD_some, Option.isSome_some]
      have Hf := Lib.hid hf
      clear hf
      go_wp2
      go_ret
      exact ⟨by rw [Hf.out]; rfl, B1.out⟩
    | none =>
      unfold formV
      simp only [Option.getD_none, Option.isSome_none]
      have Hf := Lib.hid hf
      clear hf
      go_wp2_with fail
      refine (form_any Hv1.out HK.out 63 (by omega) HD1.out).mono ?_
      rintro r w2 ⟨rfl, hb2⟩
      unfold formV
      obtain ⟨X, hX⟩ : ∃ X, X = (formK K 63).getD [] := ⟨_, rfl⟩
      obtain ⟨Y, hY⟩ : ∃ Y, Y = (formK K 63).isSome := ⟨_, rfl⟩
      rw [← hX, ← hY]
      have HX := Lib.hid hX
      clear hX hY
      go_wp2
      go_ret
      exact ⟨by rw [Hf.out, Option.getD_none, ← HX.out]; rfl, B1.out.trans (hb2.mono B1.out.size)⟩
  obtain rfl : p = 4 := by omega
  clear e2 e3
  rw [lostK_4]
  have hhl := hexB_len c
  have bn := Lib.hid (below_new w (.cells #[.pointer none, .slice none 0 0] 111))
  have HI0 := Lib.hid (fresh_B w)
  go_enter Tryd.func67, Tryd.ntmps67
  go_wp2_with fail
  obtain ⟨W, hW⟩ : ∃ W, W = w.alloc (.cells #[.pointer none, .slice none 0 0] 111) := ⟨_, rfl⟩
  rw [← hW] at bn HI0 ⊢
  clear hW
  refine (hex_any c W (HD.out.below bn.out)).mono ?_
  rintro e w2 ⟨rfl, hb2⟩
  have HI2 := Lib.hid (HI0.out.stay hb2)
  have B2 := Lib.hid (bn.out.trans (hb2.mono bn.out.size))
  clear HI0 bn hb2
  obtain ⟨T, hT⟩ : ∃ T, T = [92, 117, 123] ++ hexB c ++ [125] := ⟨_, rfl⟩
  have HE := Lib.hid (show escK K c = T.flatMap fun (b : UInt8) => (formK K (b.toNat : Int)).getD [] by rw [hT]; rfl)
  generalize hexB c = X at hT hhl
  have e1 : (⟨#[92, 117, 123]⟩ : ByteArray) ++ ⟨X.toArray⟩ = ⟨([92, 117, 123] ++ X).toArray⟩ := ByteArray.mk_append_mk [92, 117, 123] X
  have e2 : (⟨([92, 117, 123] ++ X).toArray⟩ : ByteArray) ++ ⟨#[125]⟩ = ⟨([92, 117, 123] ++ X ++ [125]).toArray⟩ := ByteArray.mk_append_mk _ [125]
  obtain ⟨S1, hS1⟩ : ∃ S, S = [92, 117, 123] ++ X := ⟨_, rfl⟩
  rw [← hS1] at e1 hT
  rw [← hS1, ← hT] at e2
  have hTl : T.length ≤ 10 := by rw [hT, hS1]; simp; omega
  have hS1l : S1.length ≤ 9 := by rw [hS1]; simp; omega
  clear hT hS1
  go_wp2_with fail
  clear e1 e2
  go_loopw [40] (fun i wr => ∃ (k : Nat) (out : List UInt8), k ≤ T.length ∧ i = .int .i64 (k : Int) ∧ out.length ≤ 4 * k ∧ Hid (out = (T.take k).flatMap fun (b : UInt8) => (formK K (b.toNat : Int)).getD []) ∧ Hid (IsB w.heap.size w.heap.size out wr) ∧ Hid (Below w.heap.size w wr)) (fun i _ => T.length - (intOf i).toNat)
  case atStart => exact ⟨0, [], by omega, rfl, by simp, Lib.hid (by simp), HI2, B2⟩
  case round =>
    obtain ⟨k, out, hk, rfl, hol, Hout, HI, Hb⟩ := hrel
    have hsz : w.heap.size < wr.heap.size := isB_size HI.out
    by_cases hlt : k < T.length
    · obtain ⟨x, hx, hx2, hx256⟩ := byte8_at (s := T) (k := k) hlt
      have hki : (k : Int) < (T.length : Int) := by omega
      have Hn := Lib.hid (show (T.take (k + 1)).flatMap (fun (b : UInt8) => (formK K (b.toNat : Int)).getD []) = out ++ (formK K (x : Int)).getD [] by
        rw [List.take_succ_eq_append_getElem hlt, List.flatMap_append, ← Hout.out, List.flatMap_cons, List.flatMap_nil, List.append_nil, hx2])
      clear hx2
      go_wp2_with fail
      refine (form_any (Hv.out.stay Hb.out) HK.out (x : Int) (by omega) (HD.out.below Hb.out)).mono ?_
      rintro r w3 ⟨rfl, hb3⟩
      unfold formV
      have hYl : ((formK K (x : Int)).getD []).length ≤ 4 := by
        cases h : formK K (x : Int) with
        | none => simp
        | some y => exact (formK_ne h).2
      obtain ⟨Y, hY⟩ : ∃ X, X = (formK K (x : Int)).getD [] := ⟨_, rfl⟩
      obtain ⟨Z, hZ⟩ : ∃ Y, Y = (formK K (x : Int)).isSome := ⟨_, rfl⟩
      rw [← hY] at hYl Hn
      rw [← hY, ← hZ]
      clear hY hZ
      have hsz3 : w.heap.size ≤ w3.heap.size := by have := hb3.size; omega
      go_wp2_with fail
      refine (writeString_any w.heap.size w.heap.size out Y w3 (HI.out.stay hb3) (by omega) hsz3).mono ?_
      rintro e w4 ⟨rfl, hI4, hb4⟩
      have HR := Lib.hid (And.intro hI4 (Hb.out.trans ((hb3.mono Hb.out.size).trans hb4)))
      clear hI4 hb3 hb4
      go_wp2
      go_roundw
      case rel => exact ⟨k + 1, out ++ Y, by omega, by go_num, by rw [List.length_append]; omega, Lib.hid Hn.out.symm, Lib.hid HR.out.1, Lib.hid HR.out.2⟩
      case measure => simp [intOf]; omega
    · have hki : ¬ (k : Int) < (T.length : Int) := by omega
      have He := Lib.hid (show escK K c = out by rw [HE.out, Hout.out, List.take_of_length_le (by omega)])
      go_wp2_with fail
      refine (string_any w.heap.size w.heap.size out wr HI.out (by omega)).mono ?_
      rintro e w4 ⟨rfl, hb4⟩
      go_wp2
      go_ret
      exact ⟨by rw [He.out]; rfl, Hb.out.trans hb4⟩
end Go.Proofs.YtbcbmmgfdobdiaaDoor

/- convert.strict. -/
import Derived.Test.YtbcbmmgfdobdiaaDoorK6
namespace Go.Proofs.YtbcbmmgfdobdiaaDoor
open Go.RowKit

def outT : Except (Int × Nat) (List UInt8) → Value
  | .ok o => .tuple #[.string ⟨o.toArray⟩, .agg #[.int .i64 0, .int .i64 0]]
  | .error (e, i) => .tuple #[.string ⟨([] : List UInt8).toArray⟩, .agg #[.int .i64 e, .int .i64 (i : Int)]]
def strictR (K L : Cd) (s : List UInt8) : Except (Int × Nat) (List UInt8) := strictK K L s.length 0 s
theorem upon_to {P : Program} {o : Oper} {a : Act} {next : Act → World → Prop} {Q : Exit → Act → World → Prop} {r r' : Result Next} (h : r = r') (hc : o.upon P a next Q r') : o.upon P a next Q r := by rw [h]; exact hc
theorem preS_nil (r : Except (Int × Nat) (List UInt8)) : preS [] r = r := by cases r <;> rfl
theorem nilK {W : World} {K : Cd} {v : Value} (h : CdV W K v) {ρ : Operand → Value} {o : Oper} {x : Operand} (ho : o.op = .nilCheck x) (hx : ρ x = (.func (.method "unicodetext/convert.step") #[v] #[])) (w : World) : (execOp ρ o).run Tryd.prog w = .ok (.value (.func (.method "unicodetext/convert.step") #[v] #[])) w := by
  cases K with
  | u8 => obtain rfl : v = .iface 103 (.agg #[]) := h; simp only [execOp, ho, hx]; kernel_rfl
  | u16 big => obtain rfl : v = .iface 105 (.agg #[.bool big]) := h; simp only [execOp, ho, hx]; kernel_rfl
  | one codes => obtain ⟨A, cap, m, n, rfl, hr, hm⟩ := h; simp only [execOp, ho, hx]; kernel_rfl

set_option maxRecDepth 100000 in
set_option maxHeartbeats 4000000 in
theorem strict_any (K L : Cd) (v u : Value) (s : List UInt8) (w : World) (hv : CdV w K v) (hu : CdV w L u) (hK : GoodK K) (hL : GoodK L) (hs : s.length ≤ 1000000) (hdg : Dig w) :
    Calls Tryd.prog 45 #[v, u, .string ⟨s.toArray⟩] w fun x w' => x = .returned (outT (strictR K L s)) ∧ Below w.heap.size w w' := by
  have hF0 : flt8 ((w.alloc (.cells #[.int .i64 0, .int .i64 0] 37)).alloc (.cells #[.pointer none, .slice none 0 0] 111)) w.heap.size 0 0 := (Blk.new w 37 #[.int .i64 0, .int .i64 0]).alloc _
  have hI0 : IsB (w.heap.size + 1) (w.heap.size + 1) [] ((w.alloc (.cells #[.int .i64 0, .int .i64 0] 37)).alloc (.cells #[.pointer none, .slice none 0 0] 111)) := by
    have := fresh_B (w.alloc (.cells #[.int .i64 0, .int .i64 0] 37))
    simpa using this
  have hb0 : Below w.heap.size w ((w.alloc (.cells #[.int .i64 0, .int .i64 0] 37)).alloc (.cells #[.pointer none, .slice none 0 0] 111)) := ((Below.refl _ _).alloc (Nat.le_refl _) _).alloc (by simp) _
  have HF0 := Lib.hid hF0
  have HI0 := Lib.hid hI0
  have Hb0 := Lib.hid hb0
  have Hv := Lib.hid hv
  have Hu := Lib.hid hu
  have HD0 := Lib.hid hdg
  clear hF0 hI0 hb0 hv hu hdg
  go_enter Tryd.func45, Tryd.ntmps45
  go_wp2
  go_loopw [9] (fun a wr => ∃ (k f : Nat) (out : List UInt8), k ≤ s.length ∧ a = .int .i64 (k : Int) ∧ s.length - k ≤ f ∧ out.length ≤ 4 * k ∧ Hid (strictR K L s = preS out (strictK K L f k (s.drop k))) ∧ Hid (IsB (w.heap.size + 1) (w.heap.size + 1) out wr) ∧ Hid (flt8 wr w.heap.size 0 0) ∧ Hid (Below w.heap.size w wr)) (fun a _ => s.length - (intOf a).toNat)
  case atStart => exact ⟨0, s.length, [], by omega, rfl, by omega, by simp, Lib.hid (by rw [strictR, List.drop_zero, preS_nil]), HI0, HF0, Hb0⟩
  case round =>
    obtain ⟨k, f, out, hk, rfl, hf, hol, Hee, HI, HF, Hb⟩ := hrel
    have HvK := Lib.hid (Hv.out.stay Hb.out)
    have HuL := Lib.hid (Hu.out.stay Hb.out)
    have HD := Lib.hid (HD0.out.below Hb.out)
    by_cases hlt : k < s.length
    · have hne : s.drop k ≠ [] := by intro e; have := congrArg List.length e; rw [List.length_drop] at this; simp at this; omega
      have hbd := stepK_bd K (s.drop k) hne
      have hki : (k : Int) < (s.length : Int) := by omega
      have hki2 : (k : Int) ≤ (s.length : Int) := by omega
      have hk0 : (0 : Int) ≤ (k : Int) := by omega
      have hext := ext_drop s k
      obtain ⟨f', rfl⟩ : ∃ f', f = f' + 1 := ⟨f - 1, by omega⟩
      have HTl := Lib.hid (show (s.drop k).length ≤ 1000000 by rw [List.length_drop]; omega)
      have Hsl := Lib.hid (show (s.drop k).length = s.length - k by rw [List.length_drop])
      obtain ⟨⟨z, m, b⟩, hr⟩ : ∃ r, stepK K (s.drop k) = r := ⟨_, rfl⟩
      have Hst := Lib.hid hr
      rw [hr] at hbd
      have hm1 : 1 ≤ m := hbd.1
      have hm2 : m + k ≤ s.length := by have := hbd.2.2; rw [List.length_drop] at this; simp at this; omega
      have hz9 : b = true → z ≤ 1114111 := fun hb => by
        subst hb
        have := (stepK_ok hK hr).2
        simp only [scalB, decide_eq_true_eq] at this; omega
      have Hdd := Lib.hid (show (s.drop k).drop m = s.drop (k + m) by rw [List.drop_drop])
      have Hne := Lib.hid hne
      clear hbd hr hne
      obtain ⟨T, hT⟩ : ∃ T, T = s.drop k := ⟨_, rfl⟩
      rw [← hT] at hext HTl Hsl Hst Hdd Hne Hee
      clear hT
      have Hnil := Lib.hid (show ∀ (ρ : Operand → Value) (o : Oper) (x : Operand) (ho : o.op = .nilCheck x) (hx : ρ x = (.func (.method "unicodetext/convert.step") #[v] #[])) (w : World), (execOp ρ o).run Tryd.prog w = .ok (.value (.func (.method "unicodetext/convert.step") #[v] #[])) w from fun ρ o x ho hx w => nilK HvK.out ho hx w)
      obtain ⟨fn, fargs, hmt, hm2'⟩ := meth_K HvK.out T HTl.out HD.out
      have HM2 := Lib.hid hm2'
      clear hm2'
      cases b with
      | false =>
        have He := Lib.hid (show strictR K L s = .error (9, k) by rw [Hee.out, strictK_ill Hne.out Hst.out]; rfl)
        clear hz9
        go_wp2_with fail
        refine wp_region_any (by kernel_rfl) ?_
        refine wpAny_gen (p := fun W => Below wr.heap.size wr W) (Below.refl _ _).drew ?_
        intro w0 hb0
        refine wpAny_take (i := 0) (v := v) rfl (by kernel_rfl) (by kernel_rfl) (by kernel_rfl) (fun _ _ _ h => h) (Or.inl ⟨by rfl, by intro w; go_simp⟩) ?_
        refine wpAny_take (i := 1) (v := .string ⟨s.toArray⟩) rfl (by kernel_rfl) (by kernel_rfl) (by kernel_rfl) (fun _ _ _ h => h) (Or.inl ⟨by rfl, by intro w; go_simp⟩) ?_
        refine wpAny_take (i := 2) (v := .int .i64 (k : Int)) rfl (by kernel_rfl) (by kernel_rfl) (by kernel_rfl) (fun _ _ _ h => h) (Or.inl ⟨by rfl, by intro w; go_simp⟩) ?_
        refine wpAny_take (i := 3) (v := .string ⟨T.toArray⟩) rfl (by kernel_rfl) (by kernel_rfl) (by kernel_rfl) (fun _ _ _ h => h) (Or.inl ⟨by rfl, by intro w; go_simp⟩) ?_
        refine wpAny_take (i := 4) (v := (.func (.method "unicodetext/convert.step") #[v] #[])) rfl (by kernel_rfl) (by kernel_rfl) (by kernel_rfl) (fun _ _ _ h => h) (Or.inl ⟨by rfl, by intro w; go_simp⟩) ?_
        refine wpAny_take (i := 5) (v := (.func (.method "unicodetext/convert.step") #[v] #[])) rfl (by kernel_rfl) (by kernel_rfl) (by kernel_rfl) (fun _ _ _ h => h) (Or.inl ⟨by rfl, fun w => Hnil.out _ _ _ rfl rfl w⟩) ?_
        refine wpAny_take (i := 6) (v := v) rfl (by kernel_rfl) (by kernel_rfl) (by kernel_rfl) (fun _ _ _ h => h) (Or.inl ⟨by rfl, by intro w; go_simp⟩) ?_
        refine wpAny_ready (rs := [7]) (by kernel_rfl) (by simp) ?_
        refine AllReady.cons rfl (fun KK hK => ?_) AllReady.nil
        go_simp
        refine upon_to (hmt w0) ?_
        rw [Oper.upon_enter]
        refine (HM2.out _ hb0).mono ?_
        rw [Hst.out]
        rintro e w2 ⟨rfl, hb2⟩
        simp only [trip64]
        refine hK _ _ ?_
        clear hK KK
        refine wpAny_take (i := 8) (v := (.tuple #[.int .i64 (z : Int), .int .i64 (m : Int), .bool false])) rfl (by kernel_rfl) (by kernel_rfl) (by kernel_rfl) (fun _ _ _ h => h) (Or.inl ⟨by rfl, by intro w; go_simp⟩) ?_
        refine wpAny_take (i := 9) (v := .int .i64 (z : Int)) rfl (by kernel_rfl) (by kernel_rfl) (by kernel_rfl) (fun _ _ _ h => h) (Or.inl ⟨by rfl, by intro w; go_simp⟩) ?_
        refine wpAny_take (i := 10) (v := .int .i64 (m : Int)) rfl (by kernel_rfl) (by kernel_rfl) (by kernel_rfl) (fun _ _ _ h => h) (Or.inl ⟨by rfl, by intro w; go_simp⟩) ?_
        refine wpAny_take (i := 11) (v := .bool false) rfl (by kernel_rfl) (by kernel_rfl) (by kernel_rfl) (fun _ _ _ h => h) (Or.inl ⟨by rfl, by intro w; go_simp⟩) ?_
        refine wpAny_take (i := 12) (v := .int .i64 (z : Int)) rfl (by kernel_rfl) (by kernel_rfl) (by kernel_rfl) (fun _ _ _ h => h) (Or.inl ⟨by rfl, by intro w; go_simp⟩) ?_
        refine wpAny_take (i := 13) (v := .int .i64 (m : Int)) rfl (by kernel_rfl) (by kernel_rfl) (by kernel_rfl) (fun _ _ _ h => h) (Or.inl ⟨by rfl, by intro w; go_simp⟩) ?_
        refine wpAny_take (i := 14) (v := .bool false) rfl (by kernel_rfl) (by kernel_rfl) (by kernel_rfl) (fun _ _ _ h => h) (Or.inl ⟨by rfl, by intro w; go_simp⟩) ?_
        refine wpAny_done (by kernel_rfl) ?_ _
        replace hb2 := hb0.trans (hb2.mono hb0.size)
        clear hb0
        have hF2 := HF.out.stay hb2
        have z0 := hF2.cell 0
        have z1 := hF2.cell 1
        have f0 := hF2.frozen 0
        have f1 := hF2.frozen 1
        have hF3 := (hF2.set_ 0 (.int .i64 9)).set_ 1 (.int .i64 (k : Int))
        have bF := ((Hb.out.trans (hb2.mono Hb.out.size)).setCell (p := ⟨w.heap.size, 0, none⟩) (by simp) (.int .i64 9)).setCell (p := ⟨w.heap.size, 1, none⟩) (by simp) (.int .i64 (k : Int))
        have D := Lib.hid (And.intro (hF3.cell 0) (hF3.cell 1))
        have BF := Lib.hid bF
        clear hF3 bF
        go_wp2
        obtain ⟨d0, d1⟩ := D.out
        have bF := BF.out
        clear D BF z0 z1 f0 f1 hF2
        generalize World.setCell (World.setCell _ ⟨w.heap.size, 0, none⟩ (.int .i64 9)) ⟨w.heap.size, 1, none⟩ (.int .i64 (k : Int)) = V at d0 d1 bF ⊢
        exact bodyPost_ret (v := .tuple #[.string ⟨([] : List UInt8).toArray⟩, .agg #[.int .i64 9, .int .i64 (k : Int)]]) (by simp [results, Tryd.results45, go_sem] at d0 d1 ⊢; simp [d0, d1]) rfl ⟨by rw [He.out]; rfl, bF⟩
      | true =>
        have hz := hz9 rfl
        clear hz9
        go_wp2_with fail
        refine wp_region_any (by kernel_rfl) ?_
        refine wpAny_gen (p := fun W => Below wr.heap.size wr W) (Below.refl _ _).drew ?_
        intro w0 hb0
        refine wpAny_take (i := 0) (v := v) rfl (by kernel_rfl) (by kernel_rfl) (by kernel_rfl) (fun _ _ _ h => h) (Or.inl ⟨by rfl, by intro w; go_simp⟩) ?_
        refine wpAny_take (i := 1) (v := .string ⟨s.toArray⟩) rfl (by kernel_rfl) (by kernel_rfl) (by kernel_rfl) (fun _ _ _ h => h) (Or.inl ⟨by rfl, by intro w; go_simp⟩) ?_
        refine wpAny_take (i := 2) (v := .int .i64 (k : Int)) rfl (by kernel_rfl) (by kernel_rfl) (by kernel_rfl) (fun _ _ _ h => h) (Or.inl ⟨by rfl, by intro w; go_simp⟩) ?_
        refine wpAny_take (i := 3) (v := .string ⟨T.toArray⟩) rfl (by kernel_rfl) (by kernel_rfl) (by kernel_rfl) (fun _ _ _ h => h) (Or.inl ⟨by rfl, by intro w; go_simp⟩) ?_
        refine wpAny_take (i := 4) (v := (.func (.method "unicodetext/convert.step") #[v] #[])) rfl (by kernel_rfl) (by kernel_rfl) (by kernel_rfl) (fun _ _ _ h => h) (Or.inl ⟨by rfl, by intro w; go_simp⟩) ?_
        refine wpAny_take (i := 5) (v := (.func (.method "unicodetext/convert.step") #[v] #[])) rfl (by kernel_rfl) (by kernel_rfl) (by kernel_rfl) (fun _ _ _ h => h) (Or.inl ⟨by rfl, fun w => Hnil.out _ _ _ rfl rfl w⟩) ?_
        refine wpAny_take (i := 6) (v := v) rfl (by kernel_rfl) (by kernel_rfl) (by kernel_rfl) (fun _ _ _ h => h) (Or.inl ⟨by rfl, by intro w; go_simp⟩) ?_
        refine wpAny_ready (rs := [7]) (by kernel_rfl) (by simp) ?_
        refine AllReady.cons rfl (fun KK hK => ?_) AllReady.nil
        go_simp
        refine upon_to (hmt w0) ?_
        rw [Oper.upon_enter]
        refine (HM2.out _ hb0).mono ?_
        rw [Hst.out]
        rintro e w2 ⟨rfl, hb2⟩
        simp only [trip64]
        refine hK _ _ ?_
        clear hK KK
        refine wpAny_take (i := 8) (v := (.tuple #[.int .i64 (z : Int), .int .i64 (m : Int), .bool true])) rfl (by kernel_rfl) (by kernel_rfl) (by kernel_rfl) (fun _ _ _ h => h) (Or.inl ⟨by rfl, by intro w; go_simp⟩) ?_
        refine wpAny_take (i := 9) (v := .int .i64 (z : Int)) rfl (by kernel_rfl) (by kernel_rfl) (by kernel_rfl) (fun _ _ _ h => h) (Or.inl ⟨by rfl, by intro w; go_simp⟩) ?_
        refine wpAny_take (i := 10) (v := .int .i64 (m : Int)) rfl (by kernel_rfl) (by kernel_rfl) (by kernel_rfl) (fun _ _ _ h => h) (Or.inl ⟨by rfl, by intro w; go_simp⟩) ?_
        refine wpAny_take (i := 11) (v := .bool true) rfl (by kernel_rfl) (by kernel_rfl) (by kernel_rfl) (fun _ _ _ h => h) (Or.inl ⟨by rfl, by intro w; go_simp⟩) ?_
        refine wpAny_take (i := 12) (v := .int .i64 (z : Int)) rfl (by kernel_rfl) (by kernel_rfl) (by kernel_rfl) (fun _ _ _ h => h) (Or.inl ⟨by rfl, by intro w; go_simp⟩) ?_
        refine wpAny_take (i := 13) (v := .int .i64 (m : Int)) rfl (by kernel_rfl) (by kernel_rfl) (by kernel_rfl) (fun _ _ _ h => h) (Or.inl ⟨by rfl, by intro w; go_simp⟩) ?_
        refine wpAny_take (i := 14) (v := .bool true) rfl (by kernel_rfl) (by kernel_rfl) (by kernel_rfl) (fun _ _ _ h => h) (Or.inl ⟨by rfl, by intro w; go_simp⟩) ?_
        refine wpAny_done (by kernel_rfl) ?_ _
        replace hb2 := hb0.trans (hb2.mono hb0.size)
        clear hb0
        have HuL2 := Lib.hid (HuL.out.stay hb2)
        have HD2 := Lib.hid (HD.out.below hb2)
        have HB2 := Lib.hid hb2
        clear hb2
        go_wp2_with fail
        refine (form_any HuL2.out hL (z : Int) (by omega) HD2.out).mono ?_
        rintro e w3 ⟨rfl, hb3⟩
        have hb2 := HB2.out.trans (hb3.mono HB2.out.size)
        clear hb3 HB2 HuL2 HD2
        cases hfm : formK L (z : Int) with
        | none =>
          have He := Lib.hid (show strictR K L s = .error (10, k) by rw [Hee.out, strictK_un Hne.out Hst.out hfm]; rfl)
          clear hfm
          unfold formV
          have hF2 := HF.out.stay hb2
          have z0 := hF2.cell 0
          have z1 := hF2.cell 1
          have f0 := hF2.frozen 0
          have f1 := hF2.frozen 1
          have hF3 := (hF2.set_ 0 (.int .i64 10)).set_ 1 (.int .i64 (k : Int))
          have bF := ((Hb.out.trans (hb2.mono Hb.out.size)).setCell (p := ⟨w.heap.size, 0, none⟩) (by simp) (.int .i64 10)).setCell (p := ⟨w.heap.size, 1, none⟩) (by simp) (.int .i64 (k : Int))
          have D := Lib.hid (And.intro (hF3.cell 0) (hF3.cell 1))
          have BF := Lib.hid bF
          clear hF3 bF
          go_wp2
          obtain ⟨d0, d1⟩ := D.out
          have bF := BF.out
          clear D BF z0 z1 f0 f1 hF2
          generalize World.setCell (World.setCell _ ⟨w.heap.size, 0, none⟩ (.int .i64 10)) ⟨w.heap.size, 1, none⟩ (.int .i64 (k : Int)) = V at d0 d1 bF ⊢
          exact bodyPost_ret (v := .tuple #[.string ⟨([] : List UInt8).toArray⟩, .agg #[.int .i64 10, .int .i64 (k : Int)]]) (by simp [results, Tryd.results45, go_sem] at d0 d1 ⊢; simp [d0, d1]) rfl ⟨by rw [He.out]; rfl, bF⟩
        | some x =>
          have hxl := (formK_ne hfm).2
          have Hnx := Lib.hid (show strictR K L s = preS (out ++ x) (strictK K L f' (k + m) (s.drop (k + m))) by rw [Hee.out, strictK_ok Hne.out Hst.out hfm, preS_preS, Hdd.out])
          clear hfm
          unfold formV
          have hI2 := HI.out.stay hb2
          have hsz : w.heap.size + 1 < w3.heap.size := isB_size hI2
          have HI2 := Lib.hid hI2
          have HF2 := Lib.hid (HF.out.stay hb2)
          have Hb2 := Lib.hid (Hb.out.trans (hb2.mono Hb.out.size))
          clear hI2 hb2
          go_wp2_with fail
          refine (writeString_any (w.heap.size + 1) (w.heap.size + 1) out x w3 HI2.out (by omega) (by omega)).mono ?_
          rintro e w4 ⟨rfl, hI4, hb4⟩
          have hF4 := HF2.out.below hb4 (by omega)
          have b4 := Hb2.out.trans (hb4.mono (by omega))
          go_wp2
          go_roundw
          case rel => exact ⟨k + m, f', out ++ x, by omega, by go_num, by omega, by rw [List.length_append]; omega, Hnx, Lib.hid hI4, Lib.hid hF4, Lib.hid b4⟩
          case measure => simp [intOf]; omega
    · have hke : k = s.length := by omega
      have He := Lib.hid (show strictR K L s = .ok out by rw [Hee.out, List.drop_of_length_le (by omega), strictK_nil]; simp [preS])
      have hki : ¬ (k : Int) < (s.length : Int) := by omega
      have hsz : w.heap.size + 1 < wr.heap.size := isB_size HI.out
      clear hke
      go_wp2_with fail
      refine (string_any (w.heap.size + 1) (w.heap.size + 1) out wr HI.out (by omega)).mono ?_
      rintro e w4 ⟨rfl, hb4⟩
      have hF2 := HF.out.below hb4 (by omega)
      have z0 := hF2.cell 0
      have z1 := hF2.cell 1
      have f0 := hF2.frozen 0
      have f1 := hF2.frozen 1
      have hF3 := (hF2.set_ 0 (.int .i64 0)).set_ 1 (.int .i64 0)
      have bF := ((Hb.out.trans (hb4.mono (by omega))).setCell (p := ⟨w.heap.size, 0, none⟩) (by simp) (.int .i64 0)).setCell (p := ⟨w.heap.size, 1, none⟩) (by simp) (.int .i64 0)
      have D := Lib.hid (And.intro (hF3.cell 0) (hF3.cell 1))
      have BF := Lib.hid bF
      clear hF3 bF
      go_wp2
      obtain ⟨d0, d1⟩ := D.out
      have bF := BF.out
      clear D BF z0 z1 f0 f1 hF2
      generalize World.setCell (World.setCell _ ⟨w.heap.size, 0, none⟩ (.int .i64 0)) ⟨w.heap.size, 1, none⟩ (.int .i64 0) = V at d0 d1 bF ⊢
      exact bodyPost_ret (v := .tuple #[.string ⟨out.toArray⟩, .agg #[.int .i64 0, .int .i64 0]]) (by simp [results, Tryd.results45, go_sem] at d0 d1 ⊢; simp [d0, d1]) rfl ⟨by rw [He.out]; rfl, bF⟩
end Go.Proofs.YtbcbmmgfdobdiaaDoor

/- convert.form, Put. -/
import Derived.Test.YtbcbmmgfdobdiaaDoorK5
import Derived.Test.YtbcbmmgfdobdiaaDoorU8E
import Derived.Test.YtbcbmmgfdobdiaaDoorU16B
namespace Go.Proofs.YtbcbmmgfdobdiaaDoor
open Go.RowKit

theorem enc8_one (c : Int) : enc8R [c] 1 = if scalB c = true then (form8 c.toNat, 0, 0) else ([], 9, 0) := by
  have hk : known8 1 = true := by decide
  rw [enc8R, if_pos hk]
  by_cases h : scalB c = true
  · rw [if_pos h]; simp [enc8, h, pre8, outS]
  · rw [if_neg h]; simp [enc8, h, outS]
theorem enc16_one (c : Int) : encR [c] 1 = if scalB c = true then (form16 c, 0, 0) else ([], 9, 0) := by
  have hk : knownB 1 = true := by decide
  rw [encR, if_pos hk]
  by_cases h : scalB c = true
  · rw [if_pos h]; simp [enc16, h, pre, outR]
  · rw [if_neg h]; simp [enc16, h, outR]
theorem pair_pr (u : Nat) (big : Bool) : pairB (u : Int) big = pr16 big u := by
  unfold pairB pr16; simp
theorem bytes_form (c : Int) (big : Bool) (h : scalB c = true) : bytR (form16 c) big false = (formL16 big c.toNat, 0, 0) := by
  simp only [scalB, decide_eq_true_eq] at h
  obtain ⟨m, rfl⟩ := Int.eq_ofNat_of_zero_le h.1.1
  have hm : markB big false = [] := by simp [markB]
  rw [bytR, hm, form16, formL16, Int.toNat_natCast]
  by_cases hc : (65535 : Int) < (m : Int)
  · rw [if_pos hc, if_neg (show ¬ m < 65536 by omega)]
    obtain ⟨x, hx⟩ : ∃ x, x = 55296 + (m - 65536) / 1024 := ⟨_, rfl⟩
    obtain ⟨y, hy⟩ : ∃ y, y = 56320 + (m - 65536) % 1024 := ⟨_, rfl⟩
    have e2 : pair16 (m : Int) = [(x : Int), (y : Int)] := by
      unfold pair16; congr 1
      · omega
      · congr 1; omega
    have hx2 : (0 : Int) ≤ (x : Int) ∧ (x : Int) ≤ 65535 := by omega
    have hy2 : (0 : Int) ≤ (y : Int) ∧ (y : Int) ≤ 65535 := by omega
    rw [e2, byt16, if_pos hx2, byt16, if_pos hy2, byt16, pair_pr, pair_pr, ← hx, ← hy]
    simp [preB, outB]
  · rw [if_neg hc, if_pos (show m < 65536 by omega)]
    have hm2 : (0 : Int) ≤ (m : Int) ∧ (m : Int) ≤ 65535 := by omega
    rw [byt16, if_pos hm2, byt16, pair_pr]
    simp [preB, outB]
def formV (o : Option (List UInt8)) : Value := .tuple #[.string ⟨(o.getD []).toArray⟩, .bool o.isSome]
theorem asr8 (w : World) : (Instr.typeAssert (.iface 103 (.agg #[])) 79 103 true).run Tryd.prog w = .ok (.tuple #[.agg #[], .bool true]) w := by kernel_rfl
theorem asr16a (b : Bool) (w : World) : (Instr.typeAssert (.iface 105 (.agg #[.bool b])) 79 103 true).run Tryd.prog w = .ok (.tuple #[.agg #[], .bool false]) w := by kernel_rfl
theorem asr16b (b : Bool) (w : World) : (Instr.typeAssert (.iface 105 (.agg #[.bool b])) 79 105 true).run Tryd.prog w = .ok (.tuple #[.agg #[.bool b], .bool true]) w := by kernel_rfl
theorem asr1a (x y : Value) (w : World) : (Instr.typeAssert (.iface 108 (.agg #[x, y])) 79 103 true).run Tryd.prog w = .ok (.tuple #[.agg #[], .bool false]) w := by kernel_rfl
theorem asr1b (x y : Value) (w : World) : (Instr.typeAssert (.iface 108 (.agg #[x, y])) 79 105 true).run Tryd.prog w = .ok (.tuple #[.agg #[.bool false], .bool false]) w := by kernel_rfl
theorem asr1c (x y : Value) (w : World) : (Instr.typeAssert (.iface 108 (.agg #[x, y])) 79 108 true).run Tryd.prog w = .ok (.tuple #[.agg #[x, y], .bool true]) w := by kernel_rfl

set_option maxRecDepth 100000 in
set_option maxHeartbeats 4000000 in
theorem form_u8 (c : Int) (w : World) (hdg : Dig w) :
    Calls Tryd.prog 51 #[.iface 103 (.agg #[]), .int .i64 c] w fun x w' => x = .returned (formV (formK .u8 c)) ∧ Below w.heap.size w w' := by
  have h1 := asr8
  have hr : Reads ((w.alloc (.cells #[] 103)).alloc (.cells #[.int .i64 c] 3)) ((w.alloc (.cells #[] 103)).alloc (.cells #[.int .i64 c] 3)).heap.size 1 (some ⟨w.heap.size + 1, 0, none⟩) 1 ([c].map iv) := reads_newH (w.alloc (.cells #[] 103)) #[.int .i64 c] 3 [.int .i64 c] _ (by simp) rfl
  have hb : Below w.heap.size w ((w.alloc (.cells #[] 103)).alloc (.cells #[.int .i64 c] 3)) := (below_new w _).alloc (by simp) _
  have Hr := Lib.hid hr
  have Hb := Lib.hid hb
  have HD := Lib.hid (hdg.below hb)
  clear hr hb hdg
  go_enter Tryd.func51, Tryd.ntmps51
  go_wp2_with fail
  refine (encode8_any _ 1 1 _ [c] 1 _ Hr.out (Nat.le_refl _) (by omega) HD.out).mono ?_
  rintro x w1 ⟨rfl, hb1⟩
  have b1 := Hb.out.trans (hb1.mono Hb.out.size)
  have HB1 := Lib.hid b1
  rw [enc8_one]
  cases hsc : scalB c with
  | true =>
    have He := Lib.hid (show formK .u8 c = some (form8 c.toNat) by simp only [formK]; rw [if_pos hsc])
    clear hsc hb1
    rw [if_pos rfl]
    have d0 := (Blk.new w1 37 #[.int .i64 0, .int .i64 0]).cell 0
    have b2 := Lib.hid (b1.alloc b1.size (.cells #[.int .i64 0, .int .i64 0] 37))
    go_wp2_with fail
    go_quiet (fail)
    go_wp2
    exact bodyPost_ret (v := .tuple #[.string ⟨(form8 c.toNat).toArray⟩, .bool true]) (by simp [results, Tryd.results51, go_sem]) rfl ⟨by rw [He.out]; rfl, below_drewN b2.out _⟩
  | false =>
    have He := Lib.hid (show formK .u8 c = none by simp only [formK]; rw [hsc]; rfl)
    clear hsc hb1
    rw [if_neg (by simp)]
    have d0 := (Blk.new w1 37 #[.int .i64 9, .int .i64 0]).cell 0
    have b2 := Lib.hid (b1.alloc b1.size (.cells #[.int .i64 9, .int .i64 0] 37))
    go_wp2_with fail
    go_quiet (fail)
    go_wp2
    exact bodyPost_ret (v := .tuple #[.string ⟨([] : List UInt8).toArray⟩, .bool false]) (by simp [results, Tryd.results51, go_sem]) rfl ⟨by rw [He.out]; rfl, below_drewN b2.out _⟩

set_option maxRecDepth 100000 in
set_option maxHeartbeats 4000000 in
theorem form_u16 (big : Bool) (c : Int) (w : World) (hdg : Dig w) :
    Calls Tryd.prog 51 #[.iface 105 (.agg #[.bool big]), .int .i64 c] w fun x w' => x = .returned (formV (formK (.u16 big) c)) ∧ Below w.heap.size w w' := by
  have h1 := asr16a big
  have h2 := asr16b big
  have hr : Reads ((w.alloc (.cells #[.bool big] 105)).alloc (.cells #[.int .i64 c] 3)) ((w.alloc (.cells #[.bool big] 105)).alloc (.cells #[.int .i64 c] 3)).heap.size 1 (some ⟨w.heap.size + 1, 0, none⟩) 1 ([c].map iv) := reads_newH (w.alloc (.cells #[.bool big] 105)) #[.int .i64 c] 3 [.int .i64 c] _ (by simp) rfl
  have hb : Below w.heap.size w ((w.alloc (.cells #[.bool big] 105)).alloc (.cells #[.int .i64 c] 3)) := (below_new w _).alloc (by simp) _
  have hk : Blk ((w.alloc (.cells #[.bool big] 105)).alloc (.cells #[.int .i64 c] 3)) w.heap.size 105 #[.bool big] := (Blk.new w _ _).alloc _
  have Hr := Lib.hid hr
  have Hb := Lib.hid hb
  have HD := Lib.hid (hdg.below hb)
  have Hk := Lib.hid hk
  clear hr hb hdg hk
  go_enter Tryd.func51, Tryd.ntmps51
  go_wp2_with fail
  refine (encode_any _ 1 1 _ [c] 1 _ Hr.out (Nat.le_refl _) (by omega) HD.out).mono ?_
  rw [enc16_one]
  rintro x w1 ⟨v, rfl, hov, hb1⟩
  have b1 := Hb.out.trans (hb1.mono Hb.out.size)
  have Hk1 := Lib.hid (Hk.out.stay hb1)
  have hs1 : w.heap.size < w1.heap.size := Hk1.out.lt
  cases hsc : scalB c with
  | true =>
    have He := Lib.hid (show formK (.u16 big) c = some (formL16 big c.toNat) by simp only [formK]; rw [if_pos hsc])
    have Hby := Lib.hid (bytes_form c big hsc)
    rw [hsc, if_pos rfl] at hov
    obtain ⟨Av, cv, rfl, _, hrv⟩ := val_of_own hov
    have hfl : (form16 c).length ≤ 2 := by unfold form16 pair16; split <;> simp
    obtain ⟨F, hF⟩ : ∃ F, F = form16 c := ⟨_, rfl⟩
    have Hrv := Lib.hid (show Reads w1 w1.heap.size 1 Av F.length (F.map iv) by rw [hF]; exact hrv)
    rw [if_pos rfl, ← hF]
    rw [← hF] at Hby hfl
    clear hsc hb1 hov hrv hF
    have hG := Blk.new w1 37 #[.int .i64 0, .int .i64 0]
    have d0 := hG.cell 0
    have hk2 := Hk1.out.alloc (.cells #[.int .i64 0, .int .i64 0] 37)
    have k0 := hk2.cell 0
    have b2 := b1.alloc b1.size (.cells #[.int .i64 0, .int .i64 0] 37)
    have Hr2 := Lib.hid (Hrv.out.stay (below_new w1 (.cells #[.int .i64 0, .int .i64 0] 37)))
    have HG := Lib.hid hG
    have B2 := Lib.hid b2
    clear hG b2 hk2 b1
    go_wp2_with fail
    clear d0 k0
    obtain ⟨W2, hW2⟩ : ∃ W, W = w1.alloc (.cells #[.int .i64 0, .int .i64 0] 37) := ⟨_, rfl⟩
    rw [← hW2] at HG B2 Hr2 ⊢
    clear hW2
    refine (bytes_any _ F.length cv Av F big false _ Hr2.out (Nat.le_refl _) (by omega)).mono ?_
    rw [Hby.out]
    rintro x w3 ⟨rfl, hb3⟩
    have hG3 := HG.out.stay hb3
    have z0 := hG3.cell 0
    have z1 := hG3.cell 1
    have f0 := hG3.frozen 0
    have f1 := hG3.frozen 1
    have b3 := B2.out.trans (hb3.mono B2.out.size)
    have d0 := ((hG3.set_ 0 (.int .i64 0)).set_ 1 (.int .i64 0)).cell 0
    have B4 := Lib.hid ((b3.setCell (p := ⟨w1.heap.size, 0, none⟩) (by simp; omega) (.int .i64 0)).setCell (p := ⟨w1.heap.size, 1, none⟩) (by simp; omega) (.int .i64 0))
    clear hb3 b3 hG3
    go_wp2_with fail
    go_quiet (fail)
    go_wp2
    exact bodyPost_ret (v := .tuple #[.string ⟨(formL16 big c.toNat).toArray⟩, .bool true]) (by simp [results, Tryd.results51, go_sem]) rfl ⟨by rw [He.out]; rfl, below_drewN B4.out _⟩
  | false =>
    have He := Lib.hid (show formK (.u16 big) c = none by simp only [formK]; rw [hsc]; rfl)
    rw [hsc] at hov
    obtain ⟨Av, cv, rfl, _, _⟩ := val_of_own hov
    clear hsc hb1 hov
    rw [if_neg (by simp)]
    have d0 := (Blk.new w1 37 #[.int .i64 9, .int .i64 0]).cell 0
    have b2 := Lib.hid (b1.alloc b1.size (.cells #[.int .i64 9, .int .i64 0] 37))
    go_wp2
    exact bodyPost_ret (v := .tuple #[.string ⟨([] : List UInt8).toArray⟩, .bool false]) (by simp [results, Tryd.results51, go_sem]) rfl ⟨by rw [He.out]; rfl, b2.out⟩

set_option maxRecDepth 100000 in
set_option maxHeartbeats 4000000 in
theorem form_one (codes : List Int) (A : Option Addr) (cap m n : Nat) (c : Int) (w : World) (hM : MapIs Tryd.prog 3 5 (Lit.int .i64) (Lit.int .u8) w m n (byteF codes)) (hc : -9223372036854775808 ≤ c ∧ c ≤ 9223372036854775807) (hg : GoodCs codes) :
    Calls Tryd.prog 51 #[.iface 108 (.agg #[.slice A 256 cap, .map (some m)]), .int .i64 c] w fun x w' => x = .returned (formV (formK (.one codes) c)) ∧ Below w.heap.size w w' := by
  have h1 := asr1a (.slice A 256 cap) (.map (some m))
  have h2 := asr1b (.slice A 256 cap) (.map (some m))
  have h3 := asr1c (.slice A 256 cap) (.map (some m))
  have hb := below_new w (.cells #[.slice A 256 cap, .map (some m)] 108)
  have k1 := (Blk.new w 108 #[.slice A 256 cap, .map (some m)]).cell 1
  have hkey := keyOf_i64 Tryd.underlying3 c hc.1 hc.2
  have hlook := (hM.stay hb).look2 keyInt Tryd.underlying106 (zv := (0 : Int)) (Tryd.zeroValue5 _) (plain_u8 0 (by omega) (by omega)) hkey
  have Hb := Lib.hid hb
  cases hp : byteF codes c with
  | none =>
    have He := Lib.hid (show formK (.one codes) c = none by
      simp only [formK]
      unfold byteF at hp
      split at hp
      · rename_i h0; rw [if_pos h0]
      · rename_i h0; rw [if_neg h0]; cases hq : placeOf codes c with
        | none => rfl
        | some i => rw [hq] at hp; cases hp)
    rw [hp] at hlook
    have hlook2 : (Instr.lookup 106 (.map (some m)) (.int .i64 c) true).run Tryd.prog (w.alloc (.cells #[.slice A 256 cap, .map (some m)] 108)) = .ok (.tuple #[.int .u8 0, .bool false]) (w.alloc (.cells #[.slice A 256 cap, .map (some m)] 108)) := hlook
    clear hlook hp hb
    go_enter Tryd.func51, Tryd.ntmps51
    go_wp2
    exact bodyPost_ret (v := .tuple #[.string ⟨([] : List UInt8).toArray⟩, .bool false]) (by simp [results, Tryd.results51, go_sem]) rfl ⟨by rw [He.out]; rfl, Hb.out⟩
  | some i =>
    have hpl : ∃ j : Nat, i = (j : Int) ∧ j < 256 ∧ formK (.one codes) c = some [UInt8.ofNat j] := by
      simp only [formK]
      unfold byteF at hp
      split at hp
      · cases hp
      · rename_i h0
        cases hq : placeOf codes c with
        | none => rw [hq] at hp; cases hp
        | some j =>
          rw [hq] at hp
          simp at hp
          subst hp
          have := (List.getElem?_eq_some_iff.1 (place_some hq)).1
          exact ⟨j, rfl, by have := hg.1; omega, by rw [if_neg h0]; rfl⟩
    obtain ⟨j, rfl, hj, he⟩ := hpl
    have He := Lib.hid he
    rw [hp] at hlook
    have hlook2 : (Instr.lookup 106 (.map (some m)) (.int .i64 c) true).run Tryd.prog (w.alloc (.cells #[.slice A 256 cap, .map (some m)] 108)) = .ok (.tuple #[.int .u8 (j : Int), .bool true]) (w.alloc (.cells #[.slice A 256 cap, .map (some m)] 108)) := hlook
    have hcv := conv_new (P := Tryd.prog) (w.alloc (.cells #[.slice A 256 cap, .map (some m)] 108)) Tryd.underlying92 Tryd.underlying5 Tryd.underlying9 #[.int .u8 (j : Int)] [UInt8.ofNat j] (by rw [List.map_cons, List.map_nil, bv_ofNat j hj]) 1 rfl
    have hsz : (w.alloc (.cells #[.slice A 256 cap, .map (some m)] 108)).heap.size = w.heap.size + 1 := by simp
    rw [hsz] at hcv
    clear hsz
    have B2 := Lib.hid (hb.alloc hb.size (.cells #[.int .u8 (j : Int)] 5))
    clear hlook hp hb he
    go_enter Tryd.func51, Tryd.ntmps51
    go_wp2
    exact bodyPost_ret (v := .tuple #[.string ⟨[UInt8.ofNat j].toArray⟩, .bool true]) (by simp [results, Tryd.results51, go_sem]) rfl ⟨by rw [He.out]; rfl, B2.out⟩

theorem form_any {w : World} {K : Cd} {v : Value} (h : CdV w K v) (hK : GoodK K) (c : Int) (hc : -9223372036854775808 ≤ c ∧ c ≤ 9223372036854775807) (hdg : Dig w) :
    Calls Tryd.prog 51 #[v, .int .i64 c] w fun x w' => x = .returned (formV (formK K c)) ∧ Below w.heap.size w w' := by
  cases K with
  | u8 => have hv : v = .iface 103 (.agg #[]) := h; subst hv; exact form_u8 c w hdg
  | u16 big => have hv : v = .iface 105 (.agg #[.bool big]) := h; subst hv; exact form_u16 big c w hdg
  | one codes => obtain ⟨A, cap, m, n, rfl, hr, hm⟩ := h; exact form_one codes A cap m n c w hm hc hK

set_option maxRecDepth 100000 in
set_option maxHeartbeats 2000000 in
theorem put_good (kind : Int) (A : Option Addr) (n c : Nat) (codes : List Int) (x : Int) (w : World) (h : Reads w w.heap.size 1 A n (codes.map iv)) (hC : CkE kind codes 0) (hx : -9223372036854775808 ≤ x ∧ x ≤ 9223372036854775807) (hdg : Dig w) :
    Calls Tryd.prog 28 #[.agg #[.int .i64 kind, .slice A n c], .int .i64 x] w fun r w' => r = .returned (formV (formK (cdOf kind codes) x)) ∧ Below w.heap.size w w' := by
  have HB := Lib.hid (Blk.new w 26 #[.int .i64 kind, .slice A n c])
  have hL := below_new w (.cells #[.int .i64 kind, .slice A n c] 26)
  have HL := Lib.hid hL
  have HR := Lib.hid (h.stay hL)
  have HC := Lib.hid hC
  have Hx := Lib.hid hx
  have g0 := HB.out.cell 0
  have g1 := HB.out.cell 1
  have HD := Lib.hid (hdg.below hL)
  clear hL h hC hdg hx
  go_enter Tryd.func28, Tryd.ntmps28
  go_wp2_with fail
  clear g0 g1
  obtain ⟨W, hW⟩ : ∃ W, W = w.alloc (.cells #[.int .i64 kind, .slice A n c] 26) := ⟨_, rfl⟩
  rw [← hW] at HB HL HR HD ⊢
  clear hW
  refine (open_good kind A n c codes W HR.out HC.out).mono ?_
  rintro r w1 ⟨⟨v, rfl, hv⟩, hb1⟩
  have Hv := Lib.hid hv
  have HD1 := Lib.hid (HD.out.below hb1)
  have HB1 := Lib.hid (HL.out.trans (hb1.mono HL.out.size))
  clear hv hb1
  go_wp2_with fail
  refine (form_any Hv.out (good_cd HC.out) x Hx.out HD1.out).mono ?_
  rintro r w2 ⟨rfl, hb2⟩
  obtain ⟨o, ho⟩ : ∃ o, o = formK (cdOf kind codes) x := ⟨_, rfl⟩
  rw [← ho]
  have Ho := Lib.hid ho
  clear ho
  unfold formV
  go_wp2
  exact bodyPost_ret (v := .tuple #[.string ⟨(o.getD []).toArray⟩, .bool o.isSome]) (by simp [results, Tryd.results28, go_sem]) rfl ⟨by rw [← Ho.out]; rfl, HB1.out.trans (hb2.mono HB1.out.size)⟩

set_option maxRecDepth 100000 in
set_option maxHeartbeats 2000000 in
theorem put_bad (kind : Int) (A : Option Addr) (n c : Nat) (codes : List Int) (e : Int) (x : Int) (w : World) (h : Reads w w.heap.size 1 A n (codes.map iv)) (hC : CkE kind codes e) (he : e ≠ 0) :
    Calls Tryd.prog 28 #[.agg #[.int .i64 kind, .slice A n c], .int .i64 x] w fun r w' => r = .returned (formV none) ∧ Below w.heap.size w w' := by
  have HB := Lib.hid (Blk.new w 26 #[.int .i64 kind, .slice A n c])
  have hL := below_new w (.cells #[.int .i64 kind, .slice A n c] 26)
  have HL := Lib.hid hL
  have HR := Lib.hid (h.stay hL)
  have HC := Lib.hid hC
  have g0 := HB.out.cell 0
  have g1 := HB.out.cell 1
  clear hL h hC
  go_enter Tryd.func28, Tryd.ntmps28
  go_wp2_with fail
  clear g0 g1
  refine (open_bad kind A n c codes e _ HR.out HC.out he).mono ?_
  rintro r w1 ⟨rfl, hb1⟩
  go_wp2
  exact bodyPost_ret (v := .tuple #[.string ⟨([] : List UInt8).toArray⟩, .bool false]) (by simp [results, Tryd.results28, go_sem]) rfl ⟨rfl, HL.out.trans (hb1.mono HL.out.size)⟩
end Go.Proofs.YtbcbmmgfdobdiaaDoor
